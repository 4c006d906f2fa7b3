/- Texts put together by program. -/
import Derived.Test.YtmchjbgobiagiaaQE3
namespace Go.Proofs.Ytmchjbgobiagiaa
set_option linter.unusedSimpArgs false
set_option linter.unusedVariables false
set_option maxRecDepth 100000
open Go Go.Ann Go.RowKit Go.WideShapes Go.Shelf
theorem bit_test (mask : Int) (k : Nat) (h0 : 0 ≤ mask) (h1 : mask ≤ 18446744073709551615) (hk : (k : Int) ≤ 9223372036854775807) :
    (bits BinOp.and IntKind.u64 (mask / 2 ^ min (IntKind.u64.wrap (bits BinOp.and IntKind.i64 (k : Int) 63)).toNat 64) 1 = 0) = (bitM mask k = false) := by
  have hm := Nat.mod_lt k (show 64 > 0 by decide)
  rw [and_63_i64 k hk, wrap_u64_id _ (by omega) (by omega), Int.toNat_natCast, Nat.min_eq_left (by omega)]
  have hd : 0 ≤ mask / 2 ^ (k % 64) := Int.ediv_nonneg h0 (Int.pow_nonneg (by decide))
  have hd2 : mask / 2 ^ (k % 64) ≤ mask := Int.ediv_le_self _ h0
  rw [and_one_u64 _ hd (by omega)]
  unfold bitM
  rw [decide_eq_false_iff_not]
  apply propext
  generalize mask / 2 ^ (k % 64) = z at *
  omega
theorem crashS_snoc (mask torn cut : Int) : ∀ (l : List (Int × List UInt8)) (x : Int × List UInt8) (i : Nat) (s : List (List UInt8)), crashS mask torn cut i (l ++ [x]) s = if bitM mask (i + l.length) = true then (crashS mask torn cut i l s).set x.1.toNat (if ((i + l.length : Nat) : Int) = torn then mixL x.2 ((crashS mask torn cut i l s).getD x.1.toNat []) (cutK cut) else x.2) else crashS mask torn cut i l s
  | [], x, i, s => by rw [List.nil_append, crashS, crashS]; rfl
  | a :: l, x, i, s => by
    rw [List.cons_append, crashS, crashS, crashS_snoc mask torn cut l x (i + 1), List.length_cons, show i + 1 + l.length = i + (l.length + 1) by omega]
theorem crash_256 {mask torn cut : Int} {l : List (Int × List UInt8)} {s : List (List UInt8)} (hs : ∀ x ∈ s, x.length = 256) (hl : ∀ x ∈ l, 0 ≤ x.1 ∧ x.1 < s.length ∧ x.2.length = 256) : ∀ x ∈ crashS mask torn cut 0 l s, x.length = 256 := (crash_after l 0 s hs hl).all hs hl
section
variable {W0 w : World} {F : Nat → Prop} {L : List Res} {I : List Inv} {g : Nat} {vb vl : Value} {m : Dk}
theorem crashN_ok (ok : m.ok) (mask torn cut : Int) : (crashN m mask torn cut).ok :=
  ⟨crash_256 ok.safe ok.late, fun _ h => (by cases h), ⟨by simp [crashN], by simp [crashN]⟩, by show 0 < (crashS mask torn cut 0 m.late m.safe).length; rw [crash_len]; exact ok.some, by show (crashS mask torn cut 0 m.late m.safe).length ≤ 2048; rw [crash_len]; exact ok.few, Nat.zero_le _⟩
theorem limit_ok (n : Int) (h : St W0 w F (DkL g vb vl m ++ L) I) :
    Ret Try.prog 29 [.pointer (some ⟨g, 0, none⟩), .int .i64 n] w fun u w' => u = .tuple #[] ∧ St W0 w' F (DkL g vb vl { m with left := n } ++ L) I := by
  refine ent29 _ _ _ _ ?_
  have r1 := h.rules 0 rfl
  simp (disch := first | omega | exact okFill_t rfl | exact okSize_t rfl | exact fun h => h | (simp only [World.size_alloc, World.size_drew, World.size_setCell, size_fill, bytesW]; omega)) only [go_sem, c29, r1]
  exact h.set 0 rfl 2 (.int .i64 n)
theorem crash_ok (mask torn cut : Int) (h : St W0 w F (DkL g vb vl m ++ L) I) (ok : m.ok) (h0 : 0 ≤ mask) (h1 : mask ≤ 18446744073709551615) (ht : I64 torn) (hc : I64 cut) :
    Ret Try.prog 30 [.pointer (some ⟨g, 0, none⟩), .int .u64 mask, .int .i64 torn, .int .i64 cut] w fun u w' => u = .tuple #[] ∧ ∃ vl', St W0 w' F (DkL g vb vl' (crashN m mask torn cut) ++ L) I := by
  refine ent30 _ _ _ _ _ _ ?_
  obtain ⟨gb, cb, al, cl, rfl, rfl, hcl⟩ := dk_form h ok
  have r1 := h.rules 0 rfl
  simp (disch := first | omega | exact okFill_t rfl | exact okSize_t rfl | exact fun h => h | (simp only [World.size_alloc, World.size_drew, World.size_setCell, size_fill, bytesW]; omega)) only [go_sem, c30, c30S0, c30S1, c30S2, c30S3, c30S4, c30S5, c30S6, r1]
  refine W_loopU (fun k : Nat => [(18, .int .i64 k)]) (fun k w' => k ≤ m.late.length ∧ St W0 w' F (DkL g (.slice (some ⟨gb, 0, none⟩) m.safe.length cb) (.slice al m.late.length cl) { m with safe := crashS mask torn cut 0 (m.late.take k) m.safe } ++ L) I) (fun k => m.late.length - k) 0 rfl ⟨Nat.zero_le _, h⟩ ?_
  clear h
  rintro k w2 ⟨hk, h2⟩
  have hless := ok.less
  have hlen : (crashS mask torn cut 0 (m.late.take k) m.safe).length = m.safe.length := crash_len _ _ _
  have h256 : ∀ x ∈ crashS mask torn cut 0 (m.late.take k) m.safe, x.length = 256 := crash_256 ok.safe fun x hx => ok.late x (List.mem_of_mem_take hx)
  by_cases hlt : k < m.late.length
  · have hlt' : (k : Int) < m.late.length := by omega
    have hL : RdS w2 2 pendV (.slice al m.late.length cl) m.late := RdS.of_own' (h2.row 2 rfl) m.late rfl rfl
    obtain ⟨p, rfl⟩ := hL.ptr (by omega)
    have eL := hL.at pendV_len hlt
    obtain ⟨x0, x1, x2⟩ := ok.late _ (List.getElem_mem hlt)
    obtain ⟨n, hn⟩ := Int.eq_ofNat_of_zero_le x0
    have hnl : n < m.safe.length := by omega
    have hstep : crashS mask torn cut 0 (m.late.take (k + 1)) m.safe = if bitM mask k = true then (crashS mask torn cut 0 (m.late.take k) m.safe).set n (if (k : Int) = torn then mixL m.late[k].2 ((crashS mask torn cut 0 (m.late.take k) m.safe).getD n []) (cutK cut) else m.late[k].2) else crashS mask torn cut 0 (m.late.take k) m.safe := by
      rw [List.take_succ_eq_append_getElem hlt, crashS_snoc, List.length_take, Nat.min_eq_left (by omega), Nat.zero_add, hn]; rfl
    generalize crashS mask torn cut 0 (m.late.take k) m.safe = S at h2 hlen h256 hstep
    simp (disch := first | omega | exact okFill_t rfl | exact okSize_t rfl | exact fun h => h | (simp only [World.size_alloc, World.size_drew, World.size_setCell, size_fill, bytesW]; omega)) only [go_sem, c30, c30S0, c30S1, c30S2, c30S3, c30S4, c30L0, c30S5, c30S6, c30L0, hlt', eL, pendV]
    rw [bit_test mask k h0 h1 (by omega)]
    have hnl' : (n : Int) < m.safe.length := by omega
    have hkI : I64 ((k : Int) + 1) := by constructor <;> omega
    refine ⟨by omega, fun hb => ⟨hkI, k + 1, rfl, ⟨by omega, ?_⟩, by omega⟩, fun hb => ?_⟩
    · rw [hstep, hb]
      exact h2.alloc' _
    have hb : bitM mask k = true := by simpa using hb
    rw [hb, if_pos rfl] at hstep
    have hold : S[n]'(by omega) = S.getD n [] := by rw [List.getD_eq_getElem?_getD, List.getElem?_eq_getElem (by omega)]; rfl
    have hold256 : (S.getD n []).length = 256 := by rw [← hold]; exact h256 _ (List.getElem_mem _)
    rw [hn]
    have h3 := h2.box #[.int .i64 n, .string (ofL m.late[k].2)] 106
    generalize w2.heap.size = y at h3 ⊢
    generalize w2.alloc (.cells #[.int .i64 n, .string (ofL m.late[k].2)] 106) = w3 at h3 ⊢
    have h3 : St W0 w3 F (.blk y #[.int .i64 n, .string (ofL m.late[k].2)] 106 :: ([.blk g #[.slice (some ⟨gb, 0, none⟩) m.safe.length cb, .slice (some p) m.late.length cl, .int .i64 m.left, .bool m.gone, .string (ofL zeroB)] 104, .row (.slice (some ⟨gb, 0, none⟩) m.safe.length cb) 9 1 m.safe.length (S.flatMap strE), .row (.slice (some p) m.late.length cl) 106 2 m.late.length (m.late.flatMap pendV)] ++ L)) I := st_recast h3 (by simp only [DkL, hlen])
    have fin : ∀ (w5 : World) (D : List UInt8), St W0 w5 F (.blk y #[.int .i64 n, .string (ofL D)] 106 :: ([.blk g #[.slice (some ⟨gb, 0, none⟩) m.safe.length cb, .slice (some p) m.late.length cl, .int .i64 m.left, .bool m.gone, .string (ofL zeroB)] 104, .row (.slice (some ⟨gb, 0, none⟩) m.safe.length cb) 9 1 m.safe.length ((S.set n D).flatMap strE), .row (.slice (some p) m.late.length cl) 106 2 m.late.length (m.late.flatMap pendV)] ++ L)) I → (D = if (k : Int) = torn then mixL m.late[k].2 (S.getD n []) (cutK cut) else m.late[k].2) → k + 1 ≤ m.late.length ∧ St W0 w5 F (DkL g (.slice (some ⟨gb, 0, none⟩) m.safe.length cb) (.slice (some p) m.late.length cl) { m with safe := crashS mask torn cut 0 (m.late.take (k + 1)) m.safe } ++ L) I := fun w5 D h5 hD => by
      refine ⟨by omega, ?_⟩
      rw [hstep, ← hD]
      exact st_recast (h5.sub (List.sublist_cons_self _ _)) (by simp only [DkL, List.length_set, hlen])
    refine ⟨fun htorn => ?_, fun htorn => ?_⟩
    · refine c30draw0 (Same (fun k => k = g ∨ k = y) _) (Same.refl _ _) ?_
      have h4 := h3.drew
      have r4 := h4.rules 1 rfl
      have q4 := h4.rules 0 rfl
      have l4 := h4.low 0 rfl
      have ec := (h4.row 2 rfl).cellAt n (by omega)
      rw [strE_map, List.getElem?_map, List.getElem?_eq_getElem (by omega : n < S.length), hold] at ec
      have ec : w3.drew.cell? ⟨gb, n, none⟩ = some (.string (ofL (S.getD n []))) := ec
      generalize w3.drew = w4 at h4 r4 q4 l4 ec ⊢
      obtain ⟨K, hK⟩ : ∃ K : Nat, max 0 (min cut 256) = K := ⟨(max 0 (min cut 256)).toNat, by omega⟩
      have hKc : cutK cut = K := by unfold cutK; omega
      have hK256 : K ≤ 256 := by omega
      rw [hK]
      simp (disch := first | omega | exact okFill_t rfl | exact okSize_t rfl | exact fun h => h | (simp only [World.size_alloc, World.size_drew, World.size_setCell, size_fill, bytesW]; omega)) only [go_sem, c30, c30S0, c30S1, c30S2, c30S3, c30S4, c30L0, c30S5, c30S6, c30D0, r4, q4, hnl', ec]
      refine ⟨by omega, Same.refl _ _, by omega, Same.refl _ _, by omega, by rw [List.length_take, List.length_drop]; omega, ?_⟩
      have h5 := h4.set 0 rfl 1 (.string (ofL (m.late[k].2.take K ++ (S.getD n []).drop K)))
      refine c30draw1 (Same (fun k => k = g ∨ k = y) _) (Same.refl _ _) ?_
      have h6 := h5.drew
      generalize hw6 : (w4.setCell ⟨y, 1, none⟩ (.string (ofL (m.late[k].2.take K ++ (S.getD n []).drop K)))).drew = w6 at h6 ⊢
      have h6 : St W0 w6 F (.blk y #[.int .i64 n, .string (ofL (m.late[k].2.take K ++ (S.getD n []).drop K))] 106 :: ([.blk g #[.slice (some ⟨gb, 0, none⟩) m.safe.length cb, .slice (some p) m.late.length cl, .int .i64 m.left, .bool m.gone, .string (ofL zeroB)] 104, .row (.slice (some ⟨gb, 0, none⟩) m.safe.length cb) 9 1 m.safe.length (S.flatMap strE), .row (.slice (some p) m.late.length cl) 106 2 m.late.length (m.late.flatMap pendV)] ++ L)) I := h6
      have r6 := h6.rules 1 rfl
      have q6 := h6.rules 0 rfl
      have ec6 := (h6.row 2 rfl).cellAt n (by omega)
      rw [strE_map, List.getElem?_map, List.getElem?_eq_getElem (by omega : n < S.length)] at ec6
      have ef6 := (h6.row 2 rfl).frozenAt n
      clear r4 q4 l4 ec
      simp (disch := first | omega | exact okFill_t rfl | exact okSize_t rfl | exact fun h => h | (simp only [World.size_alloc, World.size_drew, World.size_setCell, size_fill, bytesW]; omega)) only [go_sem, c30, c30S0, c30S1, c30S2, c30S3, c30S4, c30L0, c30S5, c30S6, c30D1, r6, q6, hnl', ec6, ef6]
      refine ⟨Same.refl _ _, by omega, ⟨_, rfl⟩, hkI, k + 1, rfl, fin _ (m.late[k].2.take K ++ (S.getD n []).drop K) (st_recast (h6.put 2 rfl n (.string (ofL (m.late[k].2.take K ++ (S.getD n []).drop K)))) (by rw [← strE_set]; rfl)) (by rw [if_pos htorn, hKc]; rfl), by omega⟩
    · refine c30draw1 (Same (fun k => k = g ∨ k = y) _) (Same.refl _ _) ?_
      have h4 := h3.drew
      have r4 := h4.rules 1 rfl
      have q4 := h4.rules 0 rfl
      have l4 := h4.low 0 rfl
      generalize w3.drew = w4 at h4 r4 q4 l4 ⊢
      have ec := (h4.row 2 rfl).cellAt n (by omega)
      rw [strE_map, List.getElem?_map, List.getElem?_eq_getElem (by omega : n < S.length)] at ec
      have ef := (h4.row 2 rfl).frozenAt n
      simp (disch := first | omega | exact okFill_t rfl | exact okSize_t rfl | exact fun h => h | (simp only [World.size_alloc, World.size_drew, World.size_setCell, size_fill, bytesW]; omega)) only [go_sem, c30, c30S0, c30S1, c30S2, c30S3, c30S4, c30L0, c30S5, c30S6, c30D1, r4, q4, hnl', ec, ef]
      refine ⟨Same.refl _ _, by omega, ⟨_, rfl⟩, hkI, k + 1, rfl, fin _ m.late[k].2 (st_recast (h4.put 2 rfl n (.string (ofL m.late[k].2))) (by rw [← strE_set]; rfl)) (by rw [if_neg htorn]), by omega⟩
  · have hlt' : ¬ (k : Int) < m.late.length := by omega
    obtain rfl : k = m.late.length := by omega
    rw [List.take_length] at h2
    have r2 := h2.rules 0 rfl
    simp (disch := first | omega | exact okFill_t rfl | exact okSize_t rfl | exact fun h => h | (simp only [World.size_alloc, World.size_drew, World.size_setCell, size_fill, bytesW]; omega)) only [go_sem, c30, c30S0, c30S1, c30S2, c30S3, c30S4, c30L0, c30S5, c30S6, c30L0, hlt', r2]
    have s3 := ((h2.set 0 rfl 1 (.slice none 0 0)).set 0 rfl 2 (.int .i64 (-1))).set 0 rfl 3 (.bool false)
    refine ⟨.slice none 0 0, ?_⟩
    have s4 := s3.sub (L' := [.blk g #[.slice (some ⟨gb, 0, none⟩) m.safe.length cb, .slice none 0 0, .int .i64 (-1), .bool false, .string (ofL zeroB)] 104, .row (.slice (some ⟨gb, 0, none⟩) m.safe.length cb) 9 1 (crashS mask torn cut 0 m.late m.safe).length ((crashS mask torn cut 0 m.late m.safe).flatMap strE)] ++ L) (by
      refine List.Sublist.cons_cons _ (List.Sublist.cons_cons _ ?_)
      exact List.sublist_cons_self _ _)
    exact St.front (A := [.row (.slice none 0 0) 106 2 0 []]) (D := [.blk g #[.slice (some ⟨gb, 0, none⟩) m.safe.length cb, .slice none 0 0, .int .i64 (-1), .bool false, .string (ofL zeroB)] 104, .row (.slice (some ⟨gb, 0, none⟩) m.safe.length cb) 9 1 (crashS mask torn cut 0 m.late m.safe).length ((crashS mask torn cut 0 m.late m.safe).flatMap strE)]) (L := L) (s4.nilRow 106 2)
end
end Go.Proofs.Ytmchjbgobiagiaa

namespace Go.Proofs.Ytmchjbgobiagiaa
set_option linter.unusedSimpArgs false
set_option linter.unusedVariables false
set_option maxRecDepth 100000
open Go Go.Ann Go.RowKit Go.WideShapes Go.Shelf
structure Crashy (m : Dk) (Q : List (List UInt8) → Prop) : Prop where
  ok : m.ok
  crash : ∀ mask torn cut, ∃ P, Q P ∧ Recov (crashN m mask torn cut).safe P
structure Open (s : Sto) (P : List (List UInt8)) : Prop where
  ok : s.ok
  dead : s.dead = false
  gone : s.disk.gone = false
  late : s.disk.late = []
  top : Top s.disk.safe s.hd
  used : s.hd.used = 0
  home : Home s.disk.safe s.hd P
  dirty : s.dirty = []
theorem Open.pgs {s : Sto} {P : List (List UInt8)} (g : Open s P) : pgs s = P := by
  refine pgs_eq g.home.1 fun i hi => ?_
  have hi : i < s.hd.pages := by rw [← g.home.1]; exact hi
  rw [(nowP_eq g.ok g.dead g.gone (by omega) (by omega)).2, g.late, g.dirty]
  have e : (homeN s i).toNat = 2 + s.hd.room + i := by unfold homeN; omega
  rw [e]
  exact g.home.2 i hi
theorem Open.crashy {s : Sto} {P : List (List UInt8)} (g : Open s P) {Q : List (List UInt8) → Prop} (hQ : Q P) : Crashy s.disk Q :=
  ⟨g.ok.disk, fun mask torn cut => ⟨P, hQ, by rw [Up.kept rfl g.late]; exact ⟨_, g.top, .inl ⟨g.used, g.home⟩⟩⟩⟩
theorem sto_ok {h : Hd} {m : Dk} (t : Top m.safe h) (ok : m.ok) : (⟨h, [], 0, false, m⟩ : Sto).ok :=
  ⟨t.ok, ok, t.geo.room, t.geo.pages, t.geo.few, t.geo.fit, fun _ h => (by cases h), List.Pairwise.nil, List.Pairwise.nil, fun _ h => (by cases h)⟩
section
variable {W0 w : World} {F : Nat → Prop} {L : List Res} {I : List Inv} {g : Nat} {vb vl : Value} {m : Dk} {P : List (List UInt8)}
theorem openClean_ok {hd : Hd} (h : St W0 w F (DkL g vb vl m ++ L) I) (ok : m.ok) (hg : m.gone = false) (hl : m.late = []) (t : Top m.safe hd) (h0 : hd.used = 0) (hm : Home m.safe hd P) :
    Ret Try.prog 31 [.pointer (some ⟨g, 0, none⟩)] w fun u w' => ∃ b mb s, u = .tuple #[.pointer (some ⟨b, 0, none⟩), .int .i64 0] ∧ Open s P ∧ s.disk = m ∧ St W0 w' F (StoL b mb g vb vl s ++ L) I := by
  have hfit := t.geo.fit
  refine Ret.mono (open0_ok hd h ok hg (by omega) (t.newest rfl hl) h0) ?_
  rintro u w2 ⟨b, mb, rfl, s2⟩
  exact ⟨b, mb, _, rfl, ⟨sto_ok t ok, rfl, hg, hl, t, h0, hm, rfl⟩, rfl, s2⟩
theorem openRec_ok (h : St W0 w F (DkL g vb vl m ++ L) I) (ok : m.ok) (hg : m.gone = false) (hl : m.late = []) (hr : Recov m.safe P) :
    Ret Try.prog 31 [.pointer (some ⟨g, 0, none⟩)] w fun u w' => (∃ b mb vl' s, u = .tuple #[.pointer (some ⟨b, 0, none⟩), .int .i64 0] ∧ Open s P ∧ (m.left = -1 → s.disk.left = -1) ∧ St W0 w' F (StoL b mb g vb vl' s ++ L) I) ∨
      (∃ e vl' m', u = .tuple #[.pointer none, .int .i64 e] ∧ e ≠ 0 ∧ m.left ≠ -1 ∧ Crashy m' (fun X => X = P) ∧ St W0 w' F (DkL g vb vl' m' ++ L) I) := by
  obtain ⟨hd, t, hc⟩ := hr
  rcases hc with ⟨h0, hm⟩ | ⟨l, d⟩
  · refine Ret.mono (openClean_ok h ok hg hl t h0 hm) ?_
    rintro u w2 ⟨b, mb, s, rfl, o, e, s2⟩
    exact .inl ⟨b, mb, vl, s, rfl, o, fun h => by rw [e]; exact h, s2⟩
  have hfit := t.geo.fit
  have hgu := t.geo.used
  have hgf := t.geo.few
  have hmany := t.many
  have hu : hd.used = blocksN l.length := d.jou.used
  have hu0 : 0 < hd.used := by rw [hu]; unfold blocksN hdsN; omega
  have hln := packL_len l
  refine ent31 _ _ _ ?_
  simp (disch := first | omega | exact okFill_t rfl | exact okSize_t rfl | exact fun h => h | (simp only [World.size_alloc, World.size_drew, World.size_setCell, size_fill, bytesW]; omega)) only [go_sem, c31, c31S0, c31S1, c31S2, c31S3, c31S4, c31S5, c31S6, c31S7, c31S8, c31S9, c31S10]
  refine Ret.mono (newest_ok h ok hg (by omega)) ?_
  rintro u w2 ⟨hu2, b2⟩
  rw [t.newest rfl hl] at hu2
  obtain rfl : u = _ := hu2
  have s2 := h.call b2
  simp (disch := first | omega | exact okFill_t rfl | exact okSize_t rfl | exact fun h => h | (simp only [World.size_alloc, World.size_drew, World.size_setCell, size_fill, bytesW]; omega)) only [go_sem, c31, c31S0, c31S1, c31S2, c31S3, c31S4, c31S5, c31S6, c31S7, c31S8, c31S9, c31S10, Hd.enc]
  have s3 := s2.box #[.int .u64 hd.seq, .int .i64 hd.used, .int .i64 hd.room, .int .i64 hd.pages] 73
  have r3 := s3.rules 0 rfl
  refine mmG (ek := intK) (ev := strK) ?_
  have s4 := s3.lay (mapG intK strK [] 0)
  rw [World.size_alloc] at s4
  have hzl := s4.low 1 rfl
  simp (disch := first | omega | exact okFill_t rfl | exact okSize_t rfl | exact fun h => h | (simp only [World.size_alloc, World.size_drew, World.size_setCell, size_fill, bytesW]; omega)) only [go_sem, c31, c31S0, c31S1, c31S2, c31S3, c31S4, c31S5, c31S6, c31S7, c31S8, c31S9, c31S10, r3]
  generalize (w2.alloc (.cells #[.int .u64 hd.seq, .int .i64 hd.used, .int .i64 hd.room, .int .i64 hd.pages] 73)) = w3 at s3 s4 ⊢
  generalize w3.alloc (mapG intK strK [] 0) = w4 at s4 hzl ⊢
  generalize w2.heap.size = z at s4 hzl ⊢
  generalize hmb : z + 1 = mb at s4 ⊢
  refine bdW_built (cells := #[.pointer (some ⟨g, 0, none⟩), .int .u64 hd.seq, .int .i64 hd.used, .int .i64 hd.room, .int .i64 hd.pages, .map (some mb), .bool false]) (by kernel_rfl) ?_
  have s5 := s4.box #[.pointer (some ⟨g, 0, none⟩), .int .u64 hd.seq, .int .i64 hd.used, .int .i64 hd.room, .int .i64 hd.pages, .map (some mb), .bool false] 76
  have r5 := s5.rules 2 rfl
  have hu' : (0 : Int) < hd.used := by omega
  simp (disch := first | omega | exact okFill_t rfl | exact okSize_t rfl | exact fun h => h | (simp only [World.size_alloc, World.size_drew, World.size_setCell, size_fill, bytesW]; omega)) only [go_sem, c31, c31S0, c31S1, c31S2, c31S3, c31S4, c31S5, c31S6, c31S7, c31S8, c31S9, c31S10, r5, hu']
  generalize w4.heap.size = b at s5 ⊢
  generalize w4.alloc (.cells #[.pointer (some ⟨g, 0, none⟩), .int .u64 hd.seq, .int .i64 hd.used, .int .i64 hd.room, .int .i64 hd.pages, .map (some mb), .bool false] 76) = w5 at s5 ⊢
  have s6 : St W0 w5 F (.row (.slice none 0 0) 9 1 0 [] :: (StoL b mb g vb vl ⟨hd, [], 0, false, m⟩ ++ L)) I := (s5.sub (List.Sublist.cons_cons _ (List.Sublist.cons_cons _ (List.sublist_cons_self _ _)))).nilRow 9 1
  clear s5 s4 s3 s2 r3 r5
  have hrd : ∀ k : Nat, k < (packL l).length → readN m (2 + (k : Int)) = ((packL l).getD k [], 0) := fun k hk => by
    have e1 : readyN m (2 + (k : Int)) = 0 := by
      unfold readyN
      rw [if_neg (by rw [hg]; decide), if_pos (by omega)]
    unfold readN
    rw [if_pos e1, hl, show (2 + (k : Int)).toNat = 2 + k by omega, d.jou.jou k (by omega)]
    rfl
  have hul : (hd.used : Int) = (packL l).length := by omega
  rw [hul]
  refine W_loopU (fun q : Nat × Value => [(7, q.2), (32, .int .i64 q.1)]) (fun q w' => q.1 ≤ (packL l).length ∧ St W0 w' F (.row q.2 9 1 q.1 (((packL l).take q.1).flatMap strE) :: (StoL b mb g vb vl ⟨hd, [], 0, false, m⟩ ++ L)) I) (fun q => (packL l).length - q.1) (0, .slice none 0 0) rfl ⟨Nat.zero_le _, by simpa using s6⟩ ?_
  clear s6
  rintro ⟨k, vo⟩ w6 ⟨hk, s6⟩
  simp only at hk s6
  obtain ⟨ao, co, rfl, _⟩ := own_slice (s6.row 0 rfl)
  by_cases hlt : k < (packL l).length
  · have hlt' : (k : Int) < (packL l).length := by omega
    have s7 : St W0 w6 F (StoL b mb g vb vl ⟨hd, [], 0, false, m⟩ ++ ([.row (.slice ao k co) 9 1 k (((packL l).take k).flatMap strE)] ++ L)) I := St.front (A := [_]) (D := StoL b mb g vb vl _) (L := L) s6
    simp (disch := first | omega | exact okFill_t rfl | exact okSize_t rfl | exact fun h => h | (simp only [World.size_alloc, World.size_drew, World.size_setCell, size_fill, bytesW]; omega)) only [go_sem, c31, c31S0, c31S1, c31S2, c31S3, c31L0, c31S4, c31S5, c31S6, c31S7, c31S8, c31S9, c31S10, c31L0, hlt']
    refine ⟨by constructor <;> omega, Ret.mono (read_ok (2 + (k : Int)) (sto_disk s7) ok) ?_⟩
    rintro _ w7 ⟨rfl, b7⟩
    have s8 := s6.call b7
    rw [hrd k hlt]
    have hgk : (packL l).getD k [] = (packL l)[k] := by rw [List.getD_eq_getElem?_getD, List.getElem?_eq_getElem hlt]; rfl
    rw [hgk]
    have ones : ∀ u ∈ strE (packL l)[k], u.oneCell' = true := by simpa using strE_ones [(packL l)[k]]
    simp (disch := first | omega | exact okFill_t rfl | exact okSize_t rfl | exact fun h => h | (simp only [World.size_alloc, World.size_drew, World.size_setCell, size_fill, bytesW]; omega)) only [go_sem, c31, c31S0, c31S1, c31S2, c31S3, c31L0, c31S4, c31S5, c31S6, c31S7, c31S8, c31S9, c31S10]
    refine bsW_ones ty36mkI rfl rfl (by decide) (by decide) ones ?_
    have hx : Rd (w7.alloc (.cells (strE (packL l)[k]).toArray 9)) 1 (.slice (some ⟨w7.heap.size, 0, none⟩) 1 1) 1 (strE (packL l)[k]) := rd_new (n := 1) (cs := (strE (packL l)[k]).toArray) rfl
    simp (disch := first | omega | exact okFill_t rfl | exact okSize_t rfl | exact fun h => h | (simp only [World.size_alloc, World.size_drew, World.size_setCell, size_fill, bytesW]; omega)) only [go_sem, c31, c31S0, c31S1, c31S2, c31S3, c31L0, c31S4, c31S5, c31S6, c31S7, c31S8, c31S9, c31S10]
    refine (s8.alloc' (.cells (strE (packL l)[k]).toArray 9)).append 0 rfl ty36mkI rfl (by decide) hx ones (by omega) (by omega) ?_
    intro v9 w9 s9 c9
    simp (disch := first | omega | exact okFill_t rfl | exact okSize_t rfl | exact fun h => h | (simp only [World.size_alloc, World.size_drew, World.size_setCell, size_fill, bytesW]; omega)) only [go_sem, c31, c31S0, c31S1, c31S2, c31S3, c31L0, c31S4, c31S5, c31S6, c31S7, c31S8, c31S9, c31S10]
    refine ⟨by constructor <;> omega, (k + 1, v9), rfl, ⟨by omega, st_recast s9 ?_⟩, by simp only; omega⟩
    rw [List.take_succ_eq_append_getElem hlt, strE_snoc]; rfl
  · have hlt' : ¬ (k : Int) < (packL l).length := by omega
    obtain rfl : k = (packL l).length := by omega
    rw [List.take_length] at s6
    simp (disch := first | omega | exact okFill_t rfl | exact okSize_t rfl | exact fun h => h | (simp only [World.size_alloc, World.size_drew, World.size_setCell, size_fill, bytesW]; omega)) only [go_sem, c31, c31S0, c31S1, c31S2, c31S3, c31L0, c31S4, c31S5, c31S6, c31S7, c31S8, c31S9, c31S10, c31L0, hlt']
    have un := unpack_un (unpack_pack d.jou.few fun p hp => by have := d.jou.pages p hp; exact ⟨this.1, by omega, this.2.2⟩) (packL_256 l fun p hp => (d.jou.pages p hp).2.2)
    refine Ret.mono (unpack_ok s6 un) ?_
    rintro _ w7 ⟨vp, rfl, s7⟩
    obtain ⟨ap, cp, rfl, _⟩ := own_slice (s7.row 0 rfl)
    have s8 := s7.seal (.rd 2 pendV (.slice ap l.length cp) l) (RdS.of_own' (s7.row 0 rfl) l rfl rfl) fun k hk => slFoot_own hk
    have s9 : St W0 w7 F (StoL b mb g vb vl ⟨hd, [], 0, false, m⟩ ++ L) (.rd 2 pendV (.slice ap l.length cp) l :: I) := s8.sub (List.sublist_cons_self _ _)
    have hh : (nextH hd 0).ok := nextH_ok t (by omega)
    simp (disch := first | omega | exact okFill_t rfl | exact okSize_t rfl | exact fun h => h | (simp only [World.size_alloc, World.size_drew, World.size_setCell, size_fill, bytesW]; omega)) only [go_sem, c31, c31S0, c31S1, c31S2, c31S3, c31L0, c31S4, c31S5, c31S6, c31S7, c31S8, c31S9, c31S10]
    refine Ret.mono (home_ok s9 ok hh d.jou.pages d.jou.few ⟨show hd.room ≤ 2048 by omega, show hd.pages ≤ 1024 by omega⟩ (show m.late.length < 900000 by rw [hl]; decide)) ?_
    rintro _ w8 ⟨rfl, vl8, s10⟩
    have s10 := s10.inv_sub (I' := I) fun a ha => List.mem_cons_of_mem _ ha
    have fok := (finN_ok (h := hd) (l := l) ok (by rw [hl]; have := d.jou.few; simp only [List.length_nil]; omega)).1
    rcases fin_cases ⟨rfl, hl, hg⟩ t d with ⟨c1, ⟨S, u, t', bs', hm'⟩, c3⟩ | ⟨c1, c2⟩
    · simp only at s10
      rw [c1] at s10 ⊢
      rw [show headW hd 0 (nextH hd 0) = nextH hd 0 from rfl] at s10
      simp (disch := first | omega | exact okFill_t rfl | exact okSize_t rfl | exact fun h => h | (simp only [World.size_alloc, World.size_drew, World.size_setCell, size_fill, bytesW]; omega)) only [go_sem, c31, c31S0, c31S1, c31S2, c31S3, c31L0, c31S4, c31S5, c31S6, c31S7, c31S8, c31S9, c31S10]
      have hu' := u.safe
      subst hu'
      exact .inl ⟨b, mb, vl8, _, rfl, ⟨sto_ok t' fok, rfl, u.gone, u.late, t', rfl, hm', rfl⟩, c3, s10⟩
    · rw [c1] at s10 ⊢
      simp (disch := first | omega | exact okFill_t rfl | exact okSize_t rfl | exact fun h => h | (simp only [World.size_alloc, World.size_drew, World.size_setCell, size_fill, bytesW]; omega)) only [go_sem, c31, c31S0, c31S1, c31S2, c31S3, c31L0, c31S4, c31S5, c31S6, c31S7, c31S8, c31S9, c31S10]
      have s11 := (sto_disk s10).sub (L' := DkL g vb vl8 (finN m hd l).1 ++ L) (List.Sublist.append_left (List.sublist_append_right _ _) _)
      exact .inr ⟨11, vl8, _, rfl, by decide, c2.lim, ⟨fok, fun mask torn cut => ⟨P, rfl, c2.crash mask torn cut⟩⟩, s11⟩
end
end Go.Proofs.Ytmchjbgobiagiaa

namespace Go.Proofs.Ytmchjbgobiagiaa
set_option linter.unusedSimpArgs false
set_option linter.unusedVariables false
set_option maxRecDepth 100000
open Go Go.Ann Go.RowKit Go.WideShapes Go.Shelf
section
variable {va vn : Value} {was now : List Pge}
end
set_option maxRecDepth 100000 in
theorem opens_Page : Opens Try.prog 54 (fun _ (x : Pge) cs => cs = pendV x ∧ I64 x.1 ∧ (x.2.length : Int) ≤ 9223372036854775807) := by
  intro H enc w base sp hd fuel cs x hx
  obtain ⟨hl, hf⟩ := opens_fields Try.underlying54 hx
  rw [show Try.prog.cellsOf 54 = 2 by kernel_rfl] at hl
  have c_0 : Try.prog.cellsOf 3 = 1 := by kernel_rfl
  have c_1 : Try.prog.cellsOf 9 = 1 := by kernel_rfl
  match cs, hl with
  | [v0, v1], _ =>
    obtain ⟨n0, y0, g0⟩ := hf 0 _ rfl
    have h0 : DataW.trod enc Try.prog w base sp hd n0 3 (List.take (Try.prog.cellsOf 3) [v0, v1]) = some y0 := g0
    rw [c_0] at h0
    obtain ⟨a0, e0⟩ := opens_int Try.underlying3 enc w base sp hd n0 [v0] y0 h0
    have r0 : v0 = _ := (List.cons.inj e0.1).1
    obtain ⟨n1, y1, g1⟩ := hf 1 _ rfl
    have h1 : DataW.trod enc Try.prog w base sp hd n1 9 (List.take (Try.prog.cellsOf 9) [v1]) = some y1 := g1
    rw [c_1] at h1
    obtain ⟨a1, e1⟩ := opens_str Try.underlying9 enc w base sp hd n1 [v1] y1 h1
    have r1 : v1 = _ := (List.cons.inj e1.1).1
    exact ⟨(a0, a1), by rw [r0, r1]; rfl, I64_of_wf e0.2, e1.2⟩
end Go.Proofs.Ytmchjbgobiagiaa

namespace Go.Proofs.Ytmchjbgobiagiaa
set_option linter.unusedSimpArgs false
set_option linter.unusedVariables false
set_option maxRecDepth 100000
open Go Go.Ann Go.RowKit Go.WideShapes Go.Shelf
structure Bl where
  Limit : Int
  Mask : Int
  Torn : Int
  Cut : Int
def Bl.enc (a : Bl) : List Value := [.int .i64 a.Limit, .int .u64 a.Mask, .int .i64 a.Torn, .int .i64 a.Cut]
def Bl.wf (a : Bl) : Prop := I64 a.Limit ∧ (0 ≤ a.Mask ∧ a.Mask ≤ 18446744073709551615) ∧ I64 a.Torn ∧ I64 a.Cut
theorem Bl.len (a : Bl) : a.enc.length = 4 := rfl
theorem Good.crashy {s : Sto} {P : List (List UInt8)} (g : Good s P) {Q : List (List UInt8) → Prop} (hQ : Q P) : Crashy s.disk Q :=
  ⟨g.ok.disk, fun mask torn cut => ⟨P, hQ, by rw [Up.kept rfl g.late]; exact ⟨_, g.top, .inl ⟨g.used, g.home⟩⟩⟩⟩
theorem Good.limit {s : Sto} {P : List (List UInt8)} (g : Good s P) (n : Int) (hn : I64 n) : Good { s with disk := { s.disk with left := n } } P :=
  ⟨⟨g.ok.hd, ⟨g.ok.disk.safe, g.ok.disk.late, hn, g.ok.disk.some, g.ok.disk.few, g.ok.disk.less⟩, g.ok.room, g.ok.pages, g.ok.few, g.ok.fit, g.ok.keys, g.ok.nd, g.ok.born, g.ok.clock⟩, g.dead, g.gone, g.late, g.top, g.used, g.base, g.home⟩
theorem Good.blow {s s' : Sto} {P : List (List UInt8)} {e : Int} (g : Good s P) (hseq : s.hd.seq + 2 < 1000000) (c : ComOut s e s') :
    (e = 0 ∧ Crashy s'.disk fun X => X = pgs s) ∨ (e = 12 ∧ Crashy s'.disk fun X => X = P) ∨ (e = 11 ∧ Crashy s'.disk fun X => X = P ∨ X = pgs s) := by
  have hr : stReady s 0 = 0 := stReady_ok g.dead (by decide) (by have := g.ok.pages; omega)
  rcases c.out with ⟨h, _⟩ | ⟨_, hd, rfl, rfl⟩ | ⟨_, hd, l, hS, h⟩
  · exact absurd hr h
  · exact .inl ⟨rfl, g.crashy (g.pgs0 hd).symm⟩
  · obtain ⟨a1, a2, a3, a4, a5⟩ := g.sorted hS
    rcases h with ⟨hroom, rfl, rfl⟩ | ⟨hroom, rfl, hd', hhd, rfl⟩
    · exact .inr (.inl ⟨rfl, g.crashy rfl⟩)
    · have hl1 : l.length ≤ 1024 := by
        have h1 := dirty_len g.ok
        have h2 := g.ok.few
        omega
      have hbl : blocksN l.length ≤ 1041 := by unfold blocksN hdsN; omega
      have hcok := (comN_ok (h := s.hd) (l := l) g.ok.disk (by rw [g.late]; simp only [List.length_nil]; omega)).1
      rcases com_cases (N := pgs s) ⟨rfl, g.late, g.gone⟩ g.top g.used g.home g.base hseq hl1 a2 a3 hroom (pgs_len s) a4 a5 with ⟨c1, ⟨S, u, t, b, hm⟩, c3⟩ | ⟨c1, c2⟩
      · refine .inl ⟨c1, hcok, fun mask torn cut => ⟨_, rfl, ?_⟩⟩
        rw [Up.kept u.safe u.late]
        exact ⟨_, t, .inl ⟨rfl, hm⟩⟩
      · refine .inr (.inr ⟨c1, hcok, fun mask torn cut => ?_⟩)
        rcases c2.crash mask torn cut with h | h
        · exact ⟨P, .inl rfl, h⟩
        · exact ⟨_, .inr rfl, h⟩
section
variable {va vn vb' : Value} {was now : List Pge} {bl : List Bl}
theorem again_ok (w : World) (x y : Bl) (hx : x.wf) (hy : y.wf) (ha : RdS w 2 pendV va was) (hal : (was.length : Int) ≤ 9223372036854775807) :
    Ret Try.prog 8 [va, .agg x.enc.toArray, .agg y.enc.toArray] w fun u w' => u = .bool true ∧ Below w.heap.size w w' := by
  refine ent8 _ _ _ _ _ ?_
  simp (disch := first | omega | exact okFill_t rfl | exact okSize_t rfl | exact fun h => h | (simp only [World.size_alloc, World.size_drew, World.size_setCell, size_fill, bytesW]; omega)) only [go_sem, c8, c8S0, c8S1, c8S2, c8S3, c8S4, c8S5, c8S6, c8S7, c8S8, c8S9, c8S10, c8S11, c8S12, Bl.enc]
  have s1 := ((((St.start (W0 := w)).old ha (by decide)).box #[.int .i64 x.Limit, .int .u64 x.Mask, .int .i64 x.Torn, .int .i64 x.Cut] 61).box #[.int .i64 y.Limit, .int .u64 y.Mask, .int .i64 y.Torn, .int .i64 y.Cut] 61)
  rw [World.size_alloc] at s1
  generalize hw1 : ((w.alloc (.cells #[.int .i64 x.Limit, .int .u64 x.Mask, .int .i64 x.Torn, .int .i64 x.Cut] 61)).alloc (.cells #[.int .i64 y.Limit, .int .u64 y.Mask, .int .i64 y.Torn, .int .i64 y.Cut] 61)) = w1 at s1 ⊢
  refine Ret.mono (begun4_ok (n := 24) (room := 9) s1 (by decide) (by decide) (by decide)) ?_
  rintro _ w2 ⟨b, mb, g, vb, vl, rfl, s2⟩
  have g2 := sto4_good (n := 24) (room := 9) (by decide) (by decide) (by decide)
  have h2 : (sto4 24 9).hd.pages = 13 ∧ (sto4 24 9).hd.room = 9 ∧ (sto4 24 9).hd.seq = 2 ∧ (sto4 24 9).disk.left = -1 ∧ (sto4 24 9).disk.late = [] := ⟨rfl, rfl, rfl, rfl, rfl⟩
  generalize sto4 24 9 = t2 at s2 g2 h2
  simp (disch := first | omega | exact okFill_t rfl | exact okSize_t rfl | exact fun h => h | (simp only [World.size_alloc, World.size_drew, World.size_setCell, size_fill, bytesW]; omega)) only [go_sem, c8, c8S0, c8S1, c8S2, c8S3, c8S4, c8S5, c8S6, c8S7, c8S8, c8S9, c8S10, c8S11, c8S12]
  refine Ret.mono (writes_ok s2 hal) ?_
  rintro _ w3 ⟨rfl, s3⟩
  obtain ⟨g3, e3, f3, p3⟩ := g2.writes (was.take 30)
  generalize writesN t2 (was.take 30) = t3 at s3 g3 e3 f3 p3
  have r3 := s3.rules 6 rfl
  simp (disch := first | omega | exact okFill_t rfl | exact okSize_t rfl | exact fun h => h | (simp only [World.size_alloc, World.size_drew, World.size_setCell, size_fill, bytesW]; omega)) only [go_sem, c8, c8S0, c8S1, c8S2, c8S3, c8S4, c8S5, c8S6, c8S7, c8S8, c8S9, c8S10, c8S11, c8S12, r3]
  refine Ret.mono (limit_ok x.Limit (sto_disk s3)) ?_
  rintro _ w4 ⟨rfl, s4⟩
  have s5 := disk_sto s4
  have g5 : Good { t3 with disk := { t3.disk with left := x.Limit } } _ := g3.limit x.Limit hx.1
  generalize ht5 : ({ t3 with disk := { t3.disk with left := x.Limit } } : Sto) = t5 at s5 g5
  have q5 : t5.hd = t3.hd := by rw [← ht5]
  simp (disch := first | omega | exact okFill_t rfl | exact okSize_t rfl | exact fun h => h | (simp only [World.size_alloc, World.size_drew, World.size_setCell, size_fill, bytesW]; omega)) only [go_sem, c8, c8S0, c8S1, c8S2, c8S3, c8S4, c8S5, c8S6, c8S7, c8S8, c8S9, c8S10, c8S11, c8S12]
  refine Ret.mono (scommit_ok s5 g5.ok (by rw [q5, e3, h2.2.2.1]; decide) (by rw [g5.late]; decide)) ?_
  rintro _ w6 ⟨e, t6, vl6, rfl, hc, s6⟩
  have hcr : ∃ Q : List (List UInt8) → Prop, Crashy t6.disk Q := by
    rcases g5.blow (by rw [q5, e3, h2.2.2.1]; decide) hc with ⟨_, h⟩ | ⟨_, h⟩ | ⟨_, h⟩ <;> exact ⟨_, h⟩
  obtain ⟨Q, hcr⟩ := hcr
  have r6 := s6.rules 6 rfl
  simp (disch := first | omega | exact okFill_t rfl | exact okSize_t rfl | exact fun h => h | (simp only [World.size_alloc, World.size_drew, World.size_setCell, size_fill, bytesW]; omega)) only [go_sem, c8, c8S0, c8S1, c8S2, c8S3, c8S4, c8S5, c8S6, c8S7, c8S8, c8S9, c8S10, c8S11, c8S12, r6]
  refine Ret.mono (crash_ok x.Mask x.Torn x.Cut (sto_disk s6) hcr.ok hx.2.1.1 hx.2.1.2 hx.2.2.1 hx.2.2.2) ?_
  rintro _ w7 ⟨rfl, vl7, s7⟩
  obtain ⟨P, _, hP⟩ := hcr.crash x.Mask x.Torn x.Cut
  have ok7 := crashN_ok hcr.ok x.Mask x.Torn x.Cut
  simp (disch := first | omega | exact okFill_t rfl | exact okSize_t rfl | exact fun h => h | (simp only [World.size_alloc, World.size_drew, World.size_setCell, size_fill, bytesW]; omega)) only [go_sem, c8, c8S0, c8S1, c8S2, c8S3, c8S4, c8S5, c8S6, c8S7, c8S8, c8S9, c8S10, c8S11, c8S12]
  refine Ret.mono (openRec_ok s7 ok7 rfl rfl hP) ?_
  rintro u w8 h8
  rcases h8 with ⟨b8, mb8, vl8, t8, rfl, o8, l8, s8⟩ | ⟨e', vl', m', _, _, hl, _⟩
  case inr => exact absurd rfl hl
  simp (disch := first | omega | exact okFill_t rfl | exact okSize_t rfl | exact fun h => h | (simp only [World.size_alloc, World.size_drew, World.size_setCell, size_fill, bytesW]; omega)) only [go_sem, c8, c8S0, c8S1, c8S2, c8S3, c8S4, c8S5, c8S6, c8S7, c8S8, c8S9, c8S10, c8S11, c8S12]
  refine Ret.mono (all_ok s8 o8.ok o8.dead o8.gone) ?_
  rintro vx w9 s9
  rw [o8.pgs] at s9
  have hPl : P.length = t8.hd.pages := o8.home.1
  have hp8 := o8.ok.pages
  obtain ⟨gx, cx, rfl, _⟩ := (s9.row 5 rfl).form (by omega)
  have r9 := s9.rules 8 rfl
  simp (disch := first | omega | exact okFill_t rfl | exact okSize_t rfl | exact fun h => h | (simp only [World.size_alloc, World.size_drew, World.size_setCell, size_fill, bytesW]; omega)) only [go_sem, c8, c8S0, c8S1, c8S2, c8S3, c8S4, c8S5, c8S6, c8S7, c8S8, c8S9, c8S10, c8S11, c8S12, r9]
  refine Ret.mono (crash_ok y.Mask y.Torn y.Cut (sto_disk s9) o8.ok.disk hy.2.1.1 hy.2.1.2 hy.2.2.1 hy.2.2.2) ?_
  rintro _ w10 ⟨rfl, vl10, s10⟩
  have hsafe : (crashN t8.disk y.Mask y.Torn y.Cut).safe = t8.disk.safe := Up.kept rfl o8.late _ _ _
  have ok10 := crashN_ok o8.ok.disk y.Mask y.Torn y.Cut
  simp (disch := first | omega | exact okFill_t rfl | exact okSize_t rfl | exact fun h => h | (simp only [World.size_alloc, World.size_drew, World.size_setCell, size_fill, bytesW]; omega)) only [go_sem, c8, c8S0, c8S1, c8S2, c8S3, c8S4, c8S5, c8S6, c8S7, c8S8, c8S9, c8S10, c8S11, c8S12]
  refine Ret.mono (limit_ok 0 s10) ?_
  rintro _ w11 ⟨rfl, s11⟩
  simp (disch := first | omega | exact okFill_t rfl | exact okSize_t rfl | exact fun h => h | (simp only [World.size_alloc, World.size_drew, World.size_setCell, size_fill, bytesW]; omega)) only [go_sem, c8, c8S0, c8S1, c8S2, c8S3, c8S4, c8S5, c8S6, c8S7, c8S8, c8S9, c8S10, c8S11, c8S12]
  refine Ret.mono (openClean_ok (hd := t8.hd) (P := P) s11 ⟨ok10.safe, ok10.late, ⟨show (-9223372036854775808 : Int) ≤ 0 by decide, show (0 : Int) ≤ 9223372036854775807 by decide⟩, ok10.some, ok10.few, ok10.less⟩ rfl rfl (by show Top (crashN t8.disk y.Mask y.Torn y.Cut).safe _; rw [hsafe]; exact o8.top) o8.used (by show Home (crashN t8.disk y.Mask y.Torn y.Cut).safe _ _; rw [hsafe]; exact o8.home)) ?_
  rintro u w12 ⟨b12, mb12, t12, rfl, o12, _, s12⟩
  simp (disch := first | omega | exact okFill_t rfl | exact okSize_t rfl | exact fun h => h | (simp only [World.size_alloc, World.size_drew, World.size_setCell, size_fill, bytesW]; omega)) only [go_sem, c8, c8S0, c8S1, c8S2, c8S3, c8S4, c8S5, c8S6, c8S7, c8S8, c8S9, c8S10, c8S11, c8S12]
  refine Ret.mono (all_ok s12 o12.ok o12.dead o12.gone) ?_
  rintro vz w13 s13
  rw [o12.pgs] at s13
  have hA : RdS w13 1 strE (.slice (some ⟨gx, 0, none⟩) P.length cx) P := RdS.of_own' (s13.row 8 rfl) _ rfl rfl
  have hB : RdS w13 1 strE vz P := RdS.of_own' (s13.row 5 rfl) _ rfl rfl
  have hfew := o8.ok.few
  simp (disch := first | omega | exact okFill_t rfl | exact okSize_t rfl | exact fun h => h | (simp only [World.size_alloc, World.size_drew, World.size_setCell, size_fill, bytesW]; omega)) only [go_sem, c8, c8S0, c8S1, c8S2, c8S3, c8S4, c8S5, c8S6, c8S7, c8S8, c8S9, c8S10, c8S11, c8S12]
  refine Ret.mono (texts_ok P P _ vz w13 hA hB (by omega)) ?_
  rintro _ w14 ⟨rfl, b14⟩
  have s14 := s13.call b14
  have ed : decide (P = P) = true := by simp
  rw [ed]
  simp (disch := first | omega | exact okFill_t rfl | exact okSize_t rfl | exact fun h => h | (simp only [World.size_alloc, World.size_drew, World.size_setCell, size_fill, bytesW]; omega)) only [go_sem, c8, c8S0, c8S1, c8S2, c8S3, c8S4, c8S5, c8S6, c8S7, c8S8, c8S9, c8S10, c8S11, c8S12]
  refine Ret.mono (awake4_ok w14) ?_
  rintro _ w15 ⟨rfl, b15⟩
  simp (disch := first | omega | exact okFill_t rfl | exact okSize_t rfl | exact fun h => h | (simp only [World.size_alloc, World.size_drew, World.size_setCell, size_fill, bytesW]; omega)) only [go_sem, c8, c8S0, c8S1, c8S2, c8S3, c8S4, c8S5, c8S6, c8S7, c8S8, c8S9, c8S10, c8S11, c8S12]
  exact Below.next s14.bel b15
end
set_option maxRecDepth 100000 in
theorem opens_Blow : Opens Try.prog 61 (fun _ (x : Bl) cs => cs = x.enc ∧ x.wf) := by
  intro H enc w base sp hd fuel cs x hx
  obtain ⟨hl, hf⟩ := opens_fields Try.underlying61 hx
  rw [show Try.prog.cellsOf 61 = 4 by kernel_rfl] at hl
  have c_0 : Try.prog.cellsOf 3 = 1 := by kernel_rfl
  have c_1 : Try.prog.cellsOf 59 = 1 := by kernel_rfl
  match cs, hl with
  | [v0, v1, v2, v3], _ =>
    obtain ⟨n0, y0, g0⟩ := hf 0 _ rfl
    have h0 : DataW.trod enc Try.prog w base sp hd n0 3 (List.take (Try.prog.cellsOf 3) [v0, v1, v2, v3]) = some y0 := g0
    rw [c_0] at h0
    obtain ⟨a0, e0⟩ := opens_int Try.underlying3 enc w base sp hd n0 [v0] y0 h0
    have r0 : v0 = _ := (List.cons.inj e0.1).1
    obtain ⟨n1, y1, g1⟩ := hf 1 _ rfl
    have h1 : DataW.trod enc Try.prog w base sp hd n1 59 (List.take (Try.prog.cellsOf 59) [v1, v2, v3]) = some y1 := g1
    rw [c_1] at h1
    obtain ⟨a1, e1⟩ := opens_int Try.underlying59 enc w base sp hd n1 [v1] y1 h1
    have r1 : v1 = _ := (List.cons.inj e1.1).1
    obtain ⟨n2, y2, g2⟩ := hf 2 _ rfl
    have h2 : DataW.trod enc Try.prog w base sp hd n2 3 (List.take (Try.prog.cellsOf 3) [v2, v3]) = some y2 := g2
    rw [c_0] at h2
    obtain ⟨a2, e2⟩ := opens_int Try.underlying3 enc w base sp hd n2 [v2] y2 h2
    have r2 : v2 = _ := (List.cons.inj e2.1).1
    obtain ⟨n3, y3, g3⟩ := hf 3 _ rfl
    have h3 : DataW.trod enc Try.prog w base sp hd n3 3 (List.take (Try.prog.cellsOf 3) [v3]) = some y3 := g3
    rw [c_0] at h3
    obtain ⟨a3, e3⟩ := opens_int Try.underlying3 enc w base sp hd n3 [v3] y3 h3
    have r3 : v3 = _ := (List.cons.inj e3.1).1
    refine ⟨⟨a0, a1, a2, a3⟩, by rw [r0, r1, r2, r3]; rfl, I64_of_wf e0.2, ?_, I64_of_wf e2.2, I64_of_wf e3.2⟩
    have := e1.2
    simp [kOk, Lit.wf, IntKind.min, IntKind.max, IntKind.signed, IntKind.bits] at this
    exact ⟨show 0 ≤ a1 by omega, show a1 ≤ 18446744073709551615 by omega⟩
theorem again_law {H : Type} {enc : TypeId × Value → H} {w : World} {r : Reach} {b0 b1 b2 base0 base1 base2 : Nat} {sp0 sp1 sp2 : Nat → Bool} {hd0 hd1 hd2 : Bool} {v0 v1 v2 : Value} {d0 d1 d2 : DataW H} {ps0 ps1 ps2 : List MemPlace} (h0 : Value.okWide Try.prog w r b0 48 v0)
    (k0 : DataW.Trod enc Try.prog w base0 sp0 hd0 48 v0 d0 ps0) (h1 : Value.okWide Try.prog w r b1 61 v1) (k1 : DataW.Trod enc Try.prog w base1 sp1 hd1 61 v1 d1 ps1) (h2 : Value.okWide Try.prog w r b2 61 v2) (k2 : DataW.Trod enc Try.prog w base2 sp2 hd2 61 v2 d2 ps2) :
    Ret Try.prog 8 [v0, v1, v2] w fun u w' => u = .bool true ∧ Below w.heap.size w w' := by
  obtain ⟨xs, q1, q2⟩ := Opens.slice_arg (opens_slice opens_Page Try.underlying48 (by kernel_rfl)) Try.underlying48 h0 k0
  obtain ⟨q5, _⟩ := q1.plain (enc := pendV) (ok := fun _ => True) fun x c h => ⟨h.1, trivial⟩
  obtain ⟨x, cs, rfl, rfl, hx⟩ := Opens.struct_arg opens_Blow Try.underlying61 h1 k1
  obtain ⟨y, cs', rfl, rfl, hy⟩ := Opens.struct_arg opens_Blow Try.underlying61 h2 k2
  exact again_ok w x y hx hy q5 q2
end Go.Proofs.Ytmchjbgobiagiaa
