/- Texts put together by program. -/
import Derived.Test.YtbeoedgoikcbpaaQB2
namespace Go.Proofs.Ytbeoedgoikcbpaa
open Go Go.Proofs Go.Shelf
set_option linter.unusedVariables false
def layIns_ren : Go.Shelf.Ren := ⟨fun | 21 => 123 | 27 => 135 | 28 => 136 | 35 => 139 | 39 => 140 | n => n, fun | 22 => 36 | 3 => 3 | 4 => 4 | 0 => 0 | n => n, fun | n => n⟩
theorem layIns : Go.Proofs.Lays2.n21 Try.prog layIns_ren := {
    mixed := by kernel_rfl,
    f21 := Try.func123.trans (congrArg some (by kernel_rfl)),
    f27 := Try.func135.trans (congrArg some (by kernel_rfl)),
    f28 := Try.func136.trans (congrArg some (by kernel_rfl)),
    f35 := Try.func139.trans (congrArg some (by kernel_rfl)),
    f39 := Try.func140.trans (congrArg some (by kernel_rfl)),
    t0 := Try.underlying0,
    a0 := Try.isAgg0,
    z0 := Try.sizeOf0,
    v0 := Try.zeroValue0,
    t3 := Try.underlying3,
    a3 := Try.isAgg3,
    z3 := Try.sizeOf3,
    v3 := Try.zeroValue3,
    t4 := Try.underlying4,
    a4 := Try.isAgg4,
    z4 := Try.sizeOf4,
    v4 := Try.zeroValue4,
    t22 := Try.underlying36,
    a22 := Try.isAgg36,
    z22 := Try.sizeOf36,
    v22 := Try.zeroValue36,
    i3 := by kernel_rfl }
def layDel_ren : Go.Shelf.Ren := ⟨fun | 23 => 124 | n => n, fun | 22 => 36 | 3 => 3 | 4 => 4 | 0 => 0 | n => n, fun | n => n⟩
theorem layDel : Go.Proofs.Lays2.n23 Try.prog layDel_ren := {
    mixed := by kernel_rfl,
    f23 := Try.func124.trans (congrArg some (by kernel_rfl)),
    t0 := Try.underlying0,
    a0 := Try.isAgg0,
    z0 := Try.sizeOf0,
    v0 := Try.zeroValue0,
    t3 := Try.underlying3,
    a3 := Try.isAgg3,
    z3 := Try.sizeOf3,
    v3 := Try.zeroValue3,
    t4 := Try.underlying4,
    a4 := Try.isAgg4,
    z4 := Try.sizeOf4,
    v4 := Try.zeroValue4,
    t22 := Try.underlying36,
    a22 := Try.isAgg36,
    z22 := Try.sizeOf36,
    v22 := Try.zeroValue36,
    i3 := by kernel_rfl }
def layBin_ren : Go.Shelf.Ren := ⟨fun | 25 => 121 | 31 => 133 | 32 => 134 | 37 => 89 | n => n, fun | 22 => 36 | 3 => 3 | 4 => 4 | 40 => 76 | 0 => 0 | n => n, fun | n => n⟩
theorem layBin : Go.Proofs.Lays2.n25 Try.prog layBin_ren := {
    mixed := by kernel_rfl,
    f25 := Try.func121.trans (congrArg some (by kernel_rfl)),
    f31 := Try.func133.trans (congrArg some (by kernel_rfl)),
    f32 := Try.func134.trans (congrArg some (by kernel_rfl)),
    f37 := Try.func89.trans (congrArg some (by kernel_rfl)),
    t0 := Try.underlying0,
    a0 := Try.isAgg0,
    z0 := Try.sizeOf0,
    v0 := Try.zeroValue0,
    t3 := Try.underlying3,
    a3 := Try.isAgg3,
    z3 := Try.sizeOf3,
    v3 := Try.zeroValue3,
    t4 := Try.underlying4,
    a4 := Try.isAgg4,
    z4 := Try.sizeOf4,
    v4 := Try.zeroValue4,
    t22 := Try.underlying36,
    a22 := Try.isAgg36,
    z22 := Try.sizeOf36,
    v22 := Try.zeroValue36,
    t40 := Try.underlying76,
    a40 := Try.isAgg76,
    z40 := Try.sizeOf76,
    v40 := Try.zeroValue76 }
end Go.Proofs.Ytbeoedgoikcbpaa

namespace Go.Proofs.Ytbeoedgoikcbpaa
set_option linter.unusedSimpArgs false
set_option linter.unusedVariables false
set_option maxRecDepth 100000
open Go Go.Ann Go.RowKit Go.Shelf Go.Sort
theorem ltS_irr (a : List Int) : ltS a a = false := ltB_irr _
theorem ltS_trans {a b c : List Int} (h : ltS a b = true) (k : ltS b c = true) : ltS a c = true := ltB_trans h k
abbrev SV (w : World) (g : Nat) : Type := { p : VS // RdS w 1 intE p.1 p.2 ∧ OkS p.2 ∧ p.1.ownBlock ≠ some g }
instance (w : World) (g : Nat) : Inhabited (SV w g) := ⟨⟨(.slice none 0 0, []), RdS.nil, ⟨(fun n h => nomatch h), Nat.zero_le _⟩, (fun e => nomatch e)⟩⟩
def SV.enc {w : World} {g : Nat} (x : SV w g) : Value := x.1.1
theorem SV.one {w : World} {g : Nat} : OneCell (SV.enc (w := w) (g := g)) := by
  intro x
  obtain ⟨a, c, e, _⟩ := x.2.1.form
  unfold SV.enc
  rw [e]; rfl
theorem sorted_blk {α : Type} [Inhabited α] {enc : α → Value} {w : World} {g m : Nat} {ty : TypeId} {d d' : Array α} {rest : List Value} (hB : Blk w g (d.toList.map enc ++ rest).toArray ty) (hd : d'.size = d.size) (os : Array Obj) :
    Blk (sortWorld enc w g 0 m d' os) g (d'.toList.map enc ++ rest).toArray ty ∧ Chg (fun k => k = g) w (sortWorld enc w g 0 m d' os) := by
  have hg : g < w.heap.size := hB.lt
  have hh : (sortWorld enc w g 0 m d' os).heap = w.heap.modify g (onCells (putCells enc 0 d')) ++ os := rfl
  have hc : putCells enc 0 d' (d.toList.map enc ++ rest).toArray = (d'.toList.map enc ++ rest).toArray := by
    refine Array.ext_getElem? fun i => ?_
    unfold putCells
    rw [Array.getElem?_mapIdx, List.getElem?_toArray, List.getElem?_toArray]
    rcases Nat.lt_or_ge i d'.size with hi | hi
    · rw [List.getElem?_append_left (by simp; omega), List.getElem?_append_left (by simpa using hi)]
      simp only [List.getElem?_map, Array.getElem?_toList, Array.getElem?_eq_getElem (show i < d.size by omega), Array.getElem?_eq_getElem hi, Option.map_some, Nat.zero_le, Nat.zero_add, true_and, if_pos hi, Nat.sub_zero]
      rw [getElem!_pos d' i hi]
    · rw [List.getElem?_append_right (by simp; omega), List.getElem?_append_right (by simpa using hi)]
      simp only [List.length_map, Array.length_toList, hd]
      cases rest[i - d.size]? with
      | none => rfl
      | some u => simp; omega
  refine ⟨?_, rfl, rfl, rfl, ?_, fun j hj hne => ?_⟩
  · show (sortWorld enc w g 0 m d' os).heap[g]? = _
    rw [hh, Array.getElem?_append_left (by rw [Array.size_modify]; exact hg), Array.getElem?_modify, if_pos rfl, hB, Option.map_some]
    simp only [onCells, hc]
  · rw [hh, Array.size_append, Array.size_modify]; omega
  · rw [hh, Array.getElem?_append_left (by rw [Array.size_modify]; exact hj), Array.getElem?_modify, if_neg (fun e => hne e.symm)]
end Go.Proofs.Ytbeoedgoikcbpaa

namespace Go.Proofs.Ytbeoedgoikcbpaa
set_option linter.unusedSimpArgs false
set_option linter.unusedVariables false
set_option maxRecDepth 100000
open Go Go.Ann Go.RowKit
structure RowS (w : World) (v : Value) (D : List VS) : Prop where
  row : Rd w 1 v D.length (D.map Prod.fst)
  rd : ∀ p ∈ D, RdS w 1 intE p.1 p.2
theorem RowS.below {w w' : World} {v : Value} {D : List VS} (h : RowS w v D) (hb : Below w.heap.size w w') : RowS w' v D :=
  ⟨Rd.below h.row hb (by decide), fun p hp => (h.rd p hp).below hb (by decide)⟩
theorem RowS.form {w : World} {v : Value} {D : List VS} (h : RowS w v D) : ∃ a c, v = .slice a D.length c ∧ D.length ≤ c := by
  obtain ⟨_, a, c, e, hc, _⟩ := h.row
  exact ⟨a, c, e, hc⟩
theorem RowS.ptr {w : World} {a : Option Addr} {n c : Nat} {D : List VS} (h : RowS w (.slice a n c) D) (h0 : 0 < D.length) : ∃ p, a = some p := by
  obtain ⟨_, a', c', e, _, hp⟩ := h.row
  cases e
  obtain ⟨p, hp, _⟩ := hp (by omega)
  exact ⟨p, hp⟩
theorem RowS.at {w : World} {p : Addr} {n c : Nat} {D : List VS} (h : RowS w (.slice (some p) n c) D) {k : Nat} (hk : k < D.length) : w.cell? (p.add k) = some D[k].1 := by
  obtain ⟨_, a', c', e, _, hp⟩ := h.row
  cases e
  obtain ⟨q, hq, hc⟩ := hp (by omega)
  cases hq
  exact hc k _ (by simp [hk])
end Go.Proofs.Ytbeoedgoikcbpaa

namespace Go.Proofs.Ytbeoedgoikcbpaa
set_option linter.unusedSimpArgs false
set_option linter.unusedVariables false
set_option maxRecDepth 100000
open Go Go.Ann Go.RowKit
theorem offA_zero {a : Option Addr} {c sz : Nat} : offA a c 0 sz = a := by
  unfold offA
  rw [Nat.zero_mul]
  split
  · rfl
  · cases a with
    | none => rfl
    | some a => exact congrArg some (by unfold Addr.add; rfl)
theorem rd_take {w : World} {sz n k cap : Nat} {a : Option Addr} {xs : List Value} (h : Rd w sz (.slice a n cap) n xs) (hk : k ≤ n) : Rd w sz (.slice (offA a cap 0 sz) k cap) k (xs.take (k * sz)) := by
  rw [offA_zero]; exact h.take hk
theorem rd_drop {w : World} {sz n k cap : Nat} {a : Option Addr} {xs : List Value} (h : Rd w sz (.slice a n cap) n xs) (hk : k ≤ n) : Rd w sz (.slice (offA a cap k sz) (n - k) (cap - k)) (n - k) (xs.drop (k * sz)) := by
  obtain ⟨h1, a', cap', he, h2, h3⟩ := h
  simp only [Value.slice.injEq, true_and] at he
  obtain ⟨rfl, rfl⟩ := he
  refine ⟨by rw [List.length_drop, h1, Nat.sub_mul], _, _, rfl, by omega, fun h => ?_⟩
  obtain ⟨ad, rfl, h4⟩ := h3 (by omega)
  refine ⟨ad.add (k * sz), by unfold offA; rw [if_neg (by omega)]; rfl, fun j u hu => ?_⟩
  rw [add_add]
  rw [List.getElem?_drop] at hu
  exact h4 _ u hu
theorem count_cut {x : List Int} : ∀ {U : List VS}, (U.map Prod.snd).Pairwise (fun a b => ltS a b = true) → (∀ y ∈ U.take (U.countP fun y => ltS y.2 x), ltS y.2 x = true) ∧ (∀ y ∈ U.drop (U.countP fun y => ltS y.2 x), ltS y.2 x = false)
  | [], _ => ⟨(fun y h => nomatch h), (fun y h => nomatch h)⟩
  | a :: U, h => by
    rw [List.map_cons, List.pairwise_cons] at h
    obtain ⟨i1, i2⟩ := count_cut (x := x) h.2
    cases ha : ltS a.2 x with
    | true =>
      rw [List.countP_cons_of_pos (by exact ha)]
      refine ⟨fun y hy => ?_, fun y hy => i2 y (by simpa using hy)⟩
      rw [List.take_succ_cons] at hy
      rcases List.mem_cons.1 hy with rfl | hy
      · exact ha
      · exact i1 y hy
    | false =>
      have hn : ∀ y ∈ U, ltS y.2 x = false := fun y hy => by
        cases hh : ltS y.2 x with
        | false => rfl
        | true =>
          have := ltS_trans (h.1 y.2 (List.mem_map.2 ⟨y, hy, rfl⟩)) hh
          rw [ha] at this; cases this
      have h0 : (a :: U).countP (fun y => ltS y.2 x) = 0 := by
        rw [List.countP_eq_zero]
        intro y hy
        rcases List.mem_cons.1 hy with rfl | hy
        · rw [ha]; simp
        · rw [hn y hy]; simp
      rw [h0]
      refine ⟨(fun y hy => nomatch hy), fun y hy => ?_⟩
      rw [List.drop_zero] at hy
      rcases List.mem_cons.1 hy with rfl | hy
      · exact ha
      · exact hn y hy
theorem ins_sorted {U : List VS} {x : VS} (h : (U.map Prod.snd).Pairwise (fun a b => ltS a b = true)) (ho : ∀ p ∈ U, OkS p.2) (hx : OkS x.2) (hne : ∀ p ∈ U, p.2 ≠ x.2) :
    ((U.take (U.countP fun y => ltS y.2 x.2) ++ [x] ++ U.drop (U.countP fun y => ltS y.2 x.2)).map Prod.snd).Pairwise (fun a b => ltS a b = true) := by
  obtain ⟨c1, c2⟩ := count_cut (x := x.2) h
  generalize (U.countP fun y => ltS y.2 x.2) = n at c1 c2 ⊢
  have h2 := h
  rw [← List.take_append_drop n U, List.map_append, List.pairwise_append] at h2
  have c3 : ∀ y ∈ U.drop n, ltS x.2 y.2 = true := fun y hy => by
    have hm := List.mem_of_mem_drop hy
    cases hh : ltS x.2 y.2 with
    | true => rfl
    | false => exact absurd ((ho y hm).inj hx (ltB_tri (c2 y hy) hh)) (hne y hm)
  rw [List.map_append, List.map_append, List.pairwise_append, List.pairwise_append]
  refine ⟨⟨h2.1, by simp, fun a ha b hb => ?_⟩, h2.2.1, fun a ha b hb => ?_⟩
  · obtain ⟨p, hp, rfl⟩ := List.mem_map.1 ha
    simp only [List.map_cons, List.map_nil, List.mem_singleton] at hb
    rw [hb]; exact c1 p hp
  · obtain ⟨q, hq, rfl⟩ := List.mem_map.1 hb
    rcases List.mem_append.1 ha with ha | ha
    · exact h2.2.2 a ha q.2 (List.mem_map.2 ⟨q, hq, rfl⟩)
    · simp only [List.map_cons, List.map_nil, List.mem_singleton] at ha
      rw [ha]; exact c3 q hq
theorem sorted_ok (v : Value) (D : List VS) (w : World) (h : RowS w v D) (hok : ∀ p ∈ D, OkS p.2) (hl : D.length ≤ 100000) :
    Ret Try.prog 19 [v] w fun u w' => (∃ U : List VS, Uniq (D.map Prod.snd) (U.map Prod.snd) ∧ (∀ p ∈ U, p ∈ D) ∧ w'.ownsRow w.heap.size 36 1 u U.length (U.map Prod.fst)) ∧ Below w.heap.size w w' := by
  obtain ⟨a, c, rfl, _⟩ := h.form
  refine ent19 _ _ _ ?_
  simp (disch := first | omega | exact okFill_t rfl | exact okSize_t rfl | exact fun h => h | (simp only [World.size_alloc, World.size_drew, World.size_setCell, size_fill, bytesW]; omega)) only [go_sem, c19, c19S0, c19S1, c19S2, c19L0, c19S3, c19S4, c19S5, c19S6, c19S7, c19S8, c19L1, c19S9]
  have s1 := (St.start (W0 := w)).nilRow 36 1
  refine W_loopU (fun x : Nat × List VS × Value => [(3, x.2.2), (4, .int .i64 x.1)]) (fun x w' => St w w' (fun _ => False) [.row x.2.2 36 1 x.2.1.length (x.2.1.map Prod.fst)] [] ∧ x.1 ≤ D.length ∧ Uniq ((D.take x.1).map Prod.snd) (x.2.1.map Prod.snd) ∧ (∀ p ∈ x.2.1, p ∈ D) ∧ x.2.1.length ≤ x.1) (fun x => D.length - x.1) (0, [], .slice none 0 0) rfl ⟨s1, Nat.zero_le _, ⟨List.Pairwise.nil, fun s => Iff.rfl⟩, (fun p hp => by cases hp), Nat.le_refl _⟩ ?_
  rintro ⟨i, U, u⟩ w3 ⟨s3, hi, hu, hm, hle⟩
  simp only at s3 hi hu hm hle
  obtain ⟨au, cu, rfl, _⟩ := own_slice (s3.row 0 rfl)
  have h3 := h.below s3.bel
  by_cases hlt : i < D.length
  · have hlt' : (i : Int) < D.length := by omega
    obtain ⟨p, rfl⟩ := h.ptr (by omega)
    have ek := h3.at hlt
    have hrk := h3.rd _ (List.getElem_mem hlt)
    have hok' := hok _ (List.getElem_mem hlt)
    obtain ⟨ak, ck, e1, _⟩ := hrk.form
    rw [e1] at ek
    simp (disch := first | omega | exact okFill_t rfl | exact okSize_t rfl | exact fun h => h | (simp only [World.size_alloc, World.size_drew, World.size_setCell, size_fill, bytesW]; omega)) only [go_sem, c19, c19S0, c19S1, c19S2, c19L0, c19S3, c19S4, c19S5, c19S6, c19S7, c19S8, c19L1, c19S9, hlt', ek]
    refine ⟨by omega, Ret.mono (rtext_ok _ D[i].2 w3 (by rw [← e1]; exact hrk) hok'.1 hok'.2) ?_⟩
    rintro _ w4 ⟨rfl, b4⟩
    have s4 := s3.call b4
    simp (disch := first | omega | exact okFill_t rfl | exact okSize_t rfl | exact fun h => h | (simp only [World.size_alloc, World.size_drew, World.size_setCell, size_fill, bytesW]; omega)) only [go_sem, c19, c19S0, c19S1, c19S2, c19L0, c19S3, c19S4, c19S6, c19S7, c19S8, c19L1, c19S9]
    refine W_loopU (fun x : Nat => [(6, .int .i64 ((U.take x).countP fun y => ltS y.2 D[i].2)), (7, .bool ((U.take x).any fun y => decide (y.2 = D[i].2))), (8, .int .i64 x)]) (fun x w' => Below w4.heap.size w4 w' ∧ x ≤ U.length) (fun x => U.length - x) 0 rfl ⟨Below.refl _ _, Nat.zero_le _⟩ ?_
    rintro k w5 ⟨b5, hk⟩
    have s5 := s4.call b5
    have h5 := h.below s5.bel
    by_cases hku : k < U.length
    · have hku' : (k : Int) < U.length := by omega
      obtain ⟨g, rfl⟩ : ∃ g, au = some ⟨g, 0, none⟩ := by
        obtain ⟨_, ⟨_, h0⟩ | ⟨g, cap, cur, e, _⟩⟩ := s5.row 0 rfl
        · omega
        · cases e; exact ⟨g, rfl⟩
      have eu := (s5.row 0 rfl).cells rfl k U[k].1 (by simp [hku])
      rw [Addr.add_lit, Nat.zero_add] at eu
      have hpu := hm _ (List.getElem_mem hku)
      have hru := h5.rd _ hpu
      have hou := hok _ hpu
      obtain ⟨a6, c6, e6, _⟩ := hru.form
      rw [e6] at eu
      simp (disch := first | omega | exact okFill_t rfl | exact okSize_t rfl | exact fun h => h | (simp only [World.size_alloc, World.size_drew, World.size_setCell, size_fill, bytesW]; omega)) only [go_sem, c19, c19S0, c19S1, c19S2, c19L0, c19S3, c19S4, c19S5, c19S6, c19S7, c19S8, c19L1, c19S9, hku', eu]
      refine ⟨by omega, Ret.mono (rtext_ok _ U[k].2 w5 (by rw [← e6]; exact hru) hou.1 hou.2) ?_⟩
      rintro _ w6 ⟨rfl, b6⟩
      simp (disch := first | omega | exact okFill_t rfl | exact okSize_t rfl | exact fun h => h | (simp only [World.size_alloc, World.size_drew, World.size_setCell, size_fill, bytesW]; omega)) only [go_sem, c19, c19S0, c19S1, c19S2, c19L0, c19S3, c19S4, c19S5, c19S6, c19S7, c19S8, c19L1, c19S9]
      have hcle := List.countP_le_length (p := fun y : VS => ltS y.2 D[i].2) (l := U.take k)
      rw [List.length_take] at hcle
      have hct : Op.bytesLess (txt U[k].2) (txt D[i].2) = true → (U.take (k + 1)).countP (fun y => ltS y.2 D[i].2) = (U.take k).countP (fun y => ltS y.2 D[i].2) + 1 := fun hb => by
        rw [List.take_succ_eq_append_getElem hku, List.countP_append, List.countP_singleton, if_pos (show ltS U[k].2 D[i].2 = true from hb)]
      have hcf : Op.bytesLess (txt U[k].2) (txt D[i].2) = false → (U.take (k + 1)).countP (fun y => ltS y.2 D[i].2) = (U.take k).countP (fun y => ltS y.2 D[i].2) := fun hb => by
        rw [List.take_succ_eq_append_getElem hku, List.countP_append, List.countP_singleton, if_neg (by rw [show ltS U[k].2 D[i].2 = false from hb]; simp), Nat.add_zero]
      have htx : decide (txt U[k].2 = txt D[i].2) = decide (U[k].2 = D[i].2) := by
        by_cases e : U[k].2 = D[i].2
        · rw [decide_eq_true e, decide_eq_true (congrArg txt e)]
        · rw [decide_eq_false e, decide_eq_false (fun h => e (hou.inj hok' h))]
      have haf : ((U.take k).any fun y => decide (y.2 = D[i].2)) = false → ((U.take (k + 1)).any fun y => decide (y.2 = D[i].2)) = decide (txt U[k].2 = txt D[i].2) := fun e => by
        rw [List.take_succ_eq_append_getElem hku, List.any_append, e, htx]; simp
      have hat : ((U.take k).any fun y => decide (y.2 = D[i].2)) = true → ((U.take (k + 1)).any fun y => decide (y.2 = D[i].2)) = true := fun e => by
        rw [List.take_succ_eq_append_getElem hku, List.any_append, e]; rfl
      have bb := Below.next b5 b6
      refine ⟨fun hA => ⟨fun hb => ⟨⟨by omega, by omega⟩, ⟨by omega, by omega⟩, k + 1, ?_, ⟨bb, by omega⟩, by omega⟩, fun hb => ⟨⟨by omega, by omega⟩, k + 1, ?_, ⟨bb, by omega⟩, by omega⟩⟩, fun hA => ⟨fun hb => ⟨⟨by omega, by omega⟩, ⟨by omega, by omega⟩, k + 1, ?_, ⟨bb, by omega⟩, by omega⟩, fun hb => ⟨⟨by omega, by omega⟩, k + 1, ?_, ⟨bb, by omega⟩, by omega⟩⟩⟩
      · rw [hct hb, haf hA]; rfl
      · rw [hcf hb, haf hA]; rfl
      · rw [hct hb, hat hA]; rfl
      · rw [hcf hb, hat hA]; rfl
    · have hku' : ¬ (k : Int) < U.length := by omega
      simp (disch := first | omega | exact okFill_t rfl | exact okSize_t rfl | exact fun h => h | (simp only [World.size_alloc, World.size_drew, World.size_setCell, size_fill, bytesW]; omega)) only [go_sem, c19, c19S0, c19S1, c19S2, c19L0, c19S3, c19S4, c19S6, c19S7, c19S8, c19L1, c19S9, hku']
      have hkU : k = U.length := by omega
      subst hkU
      rw [List.take_length]
      cases hsame : U.any fun y => decide (y.2 = D[i].2) with
      | true =>
        simp (disch := first | omega | exact okFill_t rfl | exact okSize_t rfl | exact fun h => h | (simp only [World.size_alloc, World.size_drew, World.size_setCell, size_fill, bytesW]; omega)) only [go_sem, c19, c19S0, c19S1, c19S2, c19L0, c19S3, c19S4, c19S5, c19S6, c19S7, c19S8, c19L1, c19S9]
        obtain ⟨q, hq, e⟩ := List.any_eq_true.1 hsame
        have e := of_decide_eq_true e
        refine ⟨⟨by omega, by omega⟩, (i + 1, U, .slice au U.length cu), rfl, ⟨s5, by simp only; omega, ⟨hu.1, fun s => ?_⟩, hm, by simp only; omega⟩, by simp only; omega⟩
        simp only
        rw [List.take_succ_eq_append_getElem hlt, List.map_append, List.mem_append, ← hu.2 s]
        refine ⟨.inl, fun h => h.elim id fun h => ?_⟩
        simp only [List.map_cons, List.map_nil, List.mem_singleton] at h
        rw [h, ← e]
        exact List.mem_map.2 ⟨q, hq, rfl⟩
      | false =>
        have hne : ∀ p ∈ U, p.2 ≠ D[i].2 := fun p hp e => by
          have := List.any_eq_false.1 hsame p hp
          exact this (decide_eq_true e)
        simp (disch := first | omega | exact okFill_t rfl | exact okSize_t rfl | exact fun h => h | (simp only [World.size_alloc, World.size_drew, World.size_setCell, size_fill, bytesW]; omega)) only [go_sem, c19, c19S0, c19S1, c19S2, c19L0, c19S3, c19S4, c19S5, c19S6, c19S7, c19S8, c19L1, c19S9]
        have hn := List.countP_le_length (p := fun y : VS => ltS y.2 D[i].2) (l := U)
        obtain ⟨n, hnn⟩ : ∃ n, n = U.countP fun y => ltS y.2 D[i].2 := ⟨_, rfl⟩
        rw [← hnn] at hn
        rw [← hnn]
        refine bsW_none ty25mkI ?_
        have s6 := s5.emptyRow 36 1
        have hcu : U.length ≤ cu := by
          obtain ⟨_, ⟨e, h0⟩ | ⟨g, cap, cur, e, _, _, hc, _⟩⟩ := s5.row 0 rfl
          · omega
          · cases e; exact hc
        simp (disch := first | omega | exact okFill_t rfl | exact okSize_t rfl | exact fun h => h | (simp only [World.size_alloc, World.size_drew, World.size_setCell, size_fill, bytesW]; omega)) only [go_sem, c19, c19S0, c19S1, c19S2, c19L0, c19S3, c19S4, c19S5, c19S6, c19S7, c19S8, c19L1, c19S9]
        have ones : ∀ (L : List VS), (∀ q ∈ L, q ∈ D) → ∀ u ∈ L.map Prod.fst, u.oneCell' = true := fun L hL u hu => by
          obtain ⟨q, hq, rfl⟩ := List.mem_map.1 hu
          obtain ⟨a, c, e, _⟩ := (h.rd q (hL q hq)).form
          rw [e]; rfl
        refine ⟨⟨by omega, by omega⟩, s6.append 0 rfl ty25mkI rfl (by decide) (rd_take (Rd.of_own (s6.row 1 rfl)) hn) (by rw [Nat.mul_one, ← List.map_take]; exact ones _ fun q hq => hm q (List.mem_of_mem_take hq)) (by omega) (by omega) ?_⟩
        intro v7 w7 s7 c7
        simp only [List.set_cons_zero, List.nil_append, Nat.zero_add, Nat.mul_one, ← List.map_take] at s7
        obtain ⟨a7, c7', rfl, _⟩ := own_slice (s7.row 0 rfl)
        have h7 := h.below s7.bel
        have ek7 := h7.at hlt
        rw [e1] at ek7
        simp (disch := first | omega | exact okFill_t rfl | exact okSize_t rfl | exact fun h => h | (simp only [World.size_alloc, World.size_drew, World.size_setCell, size_fill, bytesW]; omega)) only [go_sem, c19, c19S0, c19S1, c19S2, c19L0, c19S3, c19S4, c19S5, c19S6, c19S7, c19S8, c19L1, c19S9, ek7]
        refine ⟨⟨by omega, by omega⟩, ?_⟩
        refine bsW_ones ty25mkI rfl rfl (by decide) (by decide) (by intro v hv; rw [List.mem_singleton] at hv; subst hv; rfl) ?_
        simp (disch := first | omega | exact okFill_t rfl | exact okSize_t rfl | exact fun h => h | (simp only [World.size_alloc, World.size_drew, World.size_setCell, size_fill, bytesW]; omega)) only [go_sem, c19, c19S0, c19S1, c19S2, c19L0, c19S3, c19S4, c19S5, c19S6, c19S7, c19S8, c19L1, c19S9]
        have s8 := s7.alloc' (.cells #[.slice ak D[i].2.length ck] 36)
        have hx : Rd (w7.alloc (.cells #[.slice ak D[i].2.length ck] 36)) 1 (.slice (some ⟨w7.heap.size, 0, none⟩) 1 1) 1 [.slice ak D[i].2.length ck] := rd_new (n := 1) (cs := #[.slice ak D[i].2.length ck]) rfl
        refine s8.append 0 rfl ty25mkI rfl (by decide) hx (by intro v hv; rw [List.mem_singleton] at hv; subst hv; rfl) (by omega) (by omega) ?_
        intro v9 w9 s9 c9
        simp only [List.set_cons_zero] at s9
        obtain ⟨a9, c9', rfl, _⟩ := own_slice (s9.row 0 rfl)
        simp (disch := first | omega | exact okFill_t rfl | exact okSize_t rfl | exact fun h => h | (simp only [World.size_alloc, World.size_drew, World.size_setCell, size_fill, bytesW]; omega)) only [go_sem, c19, c19S0, c19S1, c19S2, c19L0, c19S3, c19S4, c19S5, c19S6, c19S7, c19S8, c19L1, c19S9]
        refine ⟨⟨by omega, by omega⟩, s9.append 0 rfl ty25mkI rfl (by decide) (rd_drop (Rd.of_own (s9.row 1 rfl)) hn) (by rw [Nat.mul_one, ← List.map_drop]; exact ones _ fun q hq => hm q (List.mem_of_mem_drop hq)) (by omega) (by omega) ?_⟩
        intro v10 w10 s10 c10
        simp only [List.set_cons_zero, Nat.mul_one, ← List.map_drop] at s10
        simp (disch := first | omega | exact okFill_t rfl | exact okSize_t rfl | exact fun h => h | (simp only [World.size_alloc, World.size_drew, World.size_setCell, size_fill, bytesW]; omega)) only [go_sem, c19, c19S0, c19S1, c19S2, c19L0, c19S3, c19S4, c19S5, c19S6, c19S7, c19S8, c19L1, c19S9]
        have lU : n + 1 + (U.length - n) = (U.take n ++ [D[i]] ++ U.drop n).length := by simp; omega
        have eU' : List.map Prod.fst (U.take n) ++ [Value.slice ak D[i].2.length ck] ++ List.map Prod.fst (U.drop n) = (U.take n ++ [D[i]] ++ U.drop n).map Prod.fst := by
          rw [List.map_append, List.map_append, List.map_cons, List.map_nil, e1]
        rw [eU', lU] at s10
        refine ⟨⟨by omega, by omega⟩, (i + 1, U.take n ++ [D[i]] ++ U.drop n, v10), rfl, ⟨s10.sub (by simp), by simp only; omega, ⟨?_, fun s => ?_⟩, fun q hq => ?_, ?_⟩, by simp only; omega⟩
        · simp only
          rw [hnn]
          exact ins_sorted hu.1 (fun q hq => hok q (hm q hq)) hok' hne
        · simp only
          have this : s ∈ U.map Prod.snd ↔ s ∈ (U.take n).map Prod.snd ∨ s ∈ (U.drop n).map Prod.snd := by
            have e : U.map Prod.snd = (U.take n).map Prod.snd ++ (U.drop n).map Prod.snd := by rw [← List.map_append, List.take_append_drop]
            rw [e, List.mem_append]
          rw [List.take_succ_eq_append_getElem hlt]
          simp only [List.map_append (l₁ := U.take n ++ [D[i]]), List.map_append (l₁ := U.take n), List.map_append (l₁ := D.take i), List.mem_append]
          rw [← hu.2 s, this]
          constructor
          · rintro ((h | h) | h)
            · exact .inl (.inl h)
            · exact .inr h
            · exact .inl (.inr h)
          · rintro ((h | h) | h)
            · exact .inl (.inl h)
            · exact .inr h
            · exact .inl (.inr h)
        · simp only at hq
          rcases List.mem_append.1 hq with hq | hq
          · rcases List.mem_append.1 hq with hq | hq
            · exact hm q (List.mem_of_mem_take hq)
            · rw [List.mem_singleton] at hq; subst hq; exact List.getElem_mem hlt
          · exact hm q (List.mem_of_mem_drop hq)
        · simp only
          rw [← lU]; omega
  · have hlt' : ¬ (i : Int) < D.length := by omega
    simp (disch := first | omega | exact okFill_t rfl | exact okSize_t rfl | exact fun h => h | (simp only [World.size_alloc, World.size_drew, World.size_setCell, size_fill, bytesW]; omega)) only [go_sem, c19, c19S0, c19S1, c19S2, c19L0, c19S3, c19S4, c19S5, c19S6, c19S7, c19S8, c19L1, c19S9, hlt']
    rw [List.take_of_length_le (by omega)] at hu
    exact ⟨⟨U, hu, hm, s3.row 0 rfl⟩, s3.bel⟩
end Go.Proofs.Ytbeoedgoikcbpaa

namespace Go.Proofs.Ytbeoedgoikcbpaa
set_option linter.unusedSimpArgs false
set_option linter.unusedVariables false
set_option maxRecDepth 100000
open Go Go.Ann Go.RowKit
theorem ints_ok (va vb : Value) (a b : List Int) (w : World) (ha : RdS w 1 intE va a) (hb : RdS w 1 intE vb b) (hl : a.length ≤ 1000000) :
    Ret Try.prog 29 [va, vb] w fun u w' => u = .bool (decide (a = b)) ∧ Below w.heap.size w w' := by
  obtain ⟨pa, ca, rfl, _⟩ := ha.form
  obtain ⟨pb, cb, rfl, _⟩ := hb.form
  refine ent29 _ _ _ _ ?_
  simp (disch := first | omega | exact okFill_t rfl | exact okSize_t rfl | exact fun h => h | (simp only [World.size_alloc, World.size_drew, World.size_setCell, size_fill, bytesW]; omega)) only [go_sem, c29, c29S0, c29S1, c29S2, c29L0, c29S3, c29S4]
  refine ⟨fun hne => ⟨?_, Below.refl _ _⟩, fun heq => ?_⟩
  · rw [decide_eq_false (fun e => hne (by rw [e]))]
  have hlen : a.length = b.length := by omega
  refine W_loopU (fun k : Nat => [(5, .int .i64 k)]) (fun k w' => Below w.heap.size w w' ∧ k ≤ a.length ∧ a.take k = b.take k) (fun k => a.length - k) 0 rfl ⟨Below.refl _ _, Nat.zero_le _, rfl⟩ ?_
  rintro k w2 ⟨g2, hk, he⟩
  by_cases hlt : k < a.length
  · have hlt' : (k : Int) < a.length := by omega
    obtain ⟨p, rfl⟩ := ha.ptr (by omega)
    obtain ⟨q, rfl⟩ := hb.ptr (by omega)
    have ea := RdS.int (ha.below g2 (by decide)) hlt
    have eb := RdS.int (hb.below g2 (by decide)) (show k < b.length by omega)
    simp (disch := first | omega | exact okFill_t rfl | exact okSize_t rfl | exact fun h => h | (simp only [World.size_alloc, World.size_drew, World.size_setCell, size_fill, bytesW]; omega)) only [go_sem, c29, c29S0, c29S1, c29S2, c29L0, c29S3, c29S4, hlt']
    refine c29draw0 ?_
    simp (disch := first | omega | exact okFill_t rfl | exact okSize_t rfl | exact fun h => h | (simp only [World.size_alloc, World.size_drew, World.size_setCell, size_fill, bytesW]; omega)) only [go_sem, c29, c29S0, c29S1, c29S2, c29L0, c29S3, c29S4, c29D0, ea, eb]
    have gd : Below w.heap.size w w2.drew := Below.next g2 (Below.refl _ w2).drew
    have hkb : k < b.length := by omega
    refine ⟨⟨by omega, by omega⟩, ⟨by omega, by omega⟩, fun e => ⟨?_, gd⟩, fun e => ⟨⟨by omega, by omega⟩, k + 1, rfl, ⟨gd, by omega, ?_⟩, by omega⟩⟩
    · rw [decide_eq_false (fun h => e (by subst h; rfl))]
    · rw [List.take_succ_eq_append_getElem hlt, List.take_succ_eq_append_getElem hkb, he, e]
  · have hlt' : ¬ (k : Int) < a.length := by omega
    simp (disch := first | omega | exact okFill_t rfl | exact okSize_t rfl | exact fun h => h | (simp only [World.size_alloc, World.size_drew, World.size_setCell, size_fill, bytesW]; omega)) only [go_sem, c29, c29S0, c29S1, c29S2, c29L0, c29S3, c29S4, hlt']
    rw [List.take_of_length_le (by omega), List.take_of_length_le (by omega)] at he
    exact ⟨by rw [decide_eq_true he], g2⟩
end Go.Proofs.Ytbeoedgoikcbpaa

namespace Go.Proofs.Ytbeoedgoikcbpaa
set_option linter.unusedSimpArgs false
set_option linter.unusedVariables false
set_option maxRecDepth 100000
open Go Go.Ann Go.RowKit
structure OpT where
  ID : Int
  Proc : Int
  Object : Int
  Kind : Int
  Method : Int
  Arg : Int
  Second : Int
  Done : Bool
  Result : Int
  Invoke : Int
  Return : Int
deriving DecidableEq
def OpT.enc (a : OpT) : List Value := [.int .i64 a.ID, .int .i64 a.Proc, .int .i64 a.Object, .int .i64 a.Kind, .int .i64 a.Method, .int .i64 a.Arg, .int .i64 a.Second, .bool a.Done, .int .i64 a.Result, .int .i64 a.Invoke, .int .i64 a.Return]
def OpT.wf (a : OpT) : Prop := kOk .i64 a.ID ∧ kOk .i64 a.Proc ∧ kOk .i64 a.Object ∧ kOk .i64 a.Kind ∧ kOk .i64 a.Method ∧ kOk .i64 a.Arg ∧ kOk .i64 a.Second ∧ kOk .i64 a.Result ∧ kOk .i64 a.Invoke ∧ kOk .i64 a.Return
theorem OpT.len (a : OpT) : a.enc.length = 11 := rfl
theorem OpT.one (a : OpT) : ∀ u ∈ a.enc, u.oneCell' = true := by intro u hu; simp only [OpT.enc, List.mem_cons, List.not_mem_nil, or_false] at hu; rcases hu with rfl | rfl | rfl | rfl | rfl | rfl | rfl | rfl | rfl | rfl | rfl <;> rfl
theorem OpT.ones (l : List OpT) : ∀ u ∈ l.flatMap OpT.enc, u.oneCell' = true := by intro u hu; obtain ⟨a, _, h⟩ := List.mem_flatMap.1 hu; exact a.one u h
theorem OpT.at (a : OpT) : a.enc[0]? = some (.int .i64 a.ID) ∧ a.enc[1]? = some (.int .i64 a.Proc) ∧ a.enc[2]? = some (.int .i64 a.Object) ∧ a.enc[3]? = some (.int .i64 a.Kind) ∧ a.enc[4]? = some (.int .i64 a.Method) ∧ a.enc[5]? = some (.int .i64 a.Arg) ∧ a.enc[6]? = some (.int .i64 a.Second) ∧ a.enc[7]? = some (.bool a.Done) ∧ a.enc[8]? = some (.int .i64 a.Result) ∧ a.enc[9]? = some (.int .i64 a.Invoke) ∧ a.enc[10]? = some (.int .i64 a.Return) := ⟨rfl, rfl, rfl, rfl, rfl, rfl, rfl, rfl, rfl, rfl, rfl⟩
set_option maxRecDepth 100000 in
theorem opens_OpT : Opens Try.prog 58 (fun _ (a : OpT) cs => cs = a.enc ∧ a.wf) := by
  intro H enc w base sp hd fuel cs x hx
  obtain ⟨hl, hf⟩ := opens_fields Try.underlying58 hx
  rw [show Try.prog.cellsOf 58 = 11 by kernel_rfl] at hl
  have c_0 : Try.prog.cellsOf 4 = 1 := by kernel_rfl
  have c_1 : Try.prog.cellsOf 3 = 1 := by kernel_rfl
  match cs, hl with
  | [v0, v1, v2, v3, v4, v5, v6, v7, v8, v9, v10], _ =>
    obtain ⟨n0, y0, g0⟩ := hf 0 _ rfl
    have h0 : DataW.trod enc Try.prog w base sp hd n0 3 (List.take (Try.prog.cellsOf 3) [v0, v1, v2, v3, v4, v5, v6, v7, v8, v9, v10]) = some y0 := g0
    rw [c_1] at h0
    obtain ⟨a0, e0⟩ := opens_int Try.underlying3 enc w base sp hd n0 [v0] y0 h0
    have r0 : v0 = _ := (List.cons.inj e0.1).1
    obtain ⟨n1, y1, g1⟩ := hf 1 _ rfl
    have h1 : DataW.trod enc Try.prog w base sp hd n1 3 (List.take (Try.prog.cellsOf 3) [v1, v2, v3, v4, v5, v6, v7, v8, v9, v10]) = some y1 := g1
    rw [c_1] at h1
    obtain ⟨a1, e1⟩ := opens_int Try.underlying3 enc w base sp hd n1 [v1] y1 h1
    have r1 : v1 = _ := (List.cons.inj e1.1).1
    obtain ⟨n2, y2, g2⟩ := hf 2 _ rfl
    have h2 : DataW.trod enc Try.prog w base sp hd n2 3 (List.take (Try.prog.cellsOf 3) [v2, v3, v4, v5, v6, v7, v8, v9, v10]) = some y2 := g2
    rw [c_1] at h2
    obtain ⟨a2, e2⟩ := opens_int Try.underlying3 enc w base sp hd n2 [v2] y2 h2
    have r2 : v2 = _ := (List.cons.inj e2.1).1
    obtain ⟨n3, y3, g3⟩ := hf 3 _ rfl
    have h3 : DataW.trod enc Try.prog w base sp hd n3 3 (List.take (Try.prog.cellsOf 3) [v3, v4, v5, v6, v7, v8, v9, v10]) = some y3 := g3
    rw [c_1] at h3
    obtain ⟨a3, e3⟩ := opens_int Try.underlying3 enc w base sp hd n3 [v3] y3 h3
    have r3 : v3 = _ := (List.cons.inj e3.1).1
    obtain ⟨n4, y4, g4⟩ := hf 4 _ rfl
    have h4 : DataW.trod enc Try.prog w base sp hd n4 3 (List.take (Try.prog.cellsOf 3) [v4, v5, v6, v7, v8, v9, v10]) = some y4 := g4
    rw [c_1] at h4
    obtain ⟨a4, e4⟩ := opens_int Try.underlying3 enc w base sp hd n4 [v4] y4 h4
    have r4 : v4 = _ := (List.cons.inj e4.1).1
    obtain ⟨n5, y5, g5⟩ := hf 5 _ rfl
    have h5 : DataW.trod enc Try.prog w base sp hd n5 3 (List.take (Try.prog.cellsOf 3) [v5, v6, v7, v8, v9, v10]) = some y5 := g5
    rw [c_1] at h5
    obtain ⟨a5, e5⟩ := opens_int Try.underlying3 enc w base sp hd n5 [v5] y5 h5
    have r5 : v5 = _ := (List.cons.inj e5.1).1
    obtain ⟨n6, y6, g6⟩ := hf 6 _ rfl
    have h6 : DataW.trod enc Try.prog w base sp hd n6 3 (List.take (Try.prog.cellsOf 3) [v6, v7, v8, v9, v10]) = some y6 := g6
    rw [c_1] at h6
    obtain ⟨a6, e6⟩ := opens_int Try.underlying3 enc w base sp hd n6 [v6] y6 h6
    have r6 : v6 = _ := (List.cons.inj e6.1).1
    obtain ⟨n7, y7, g7⟩ := hf 7 _ rfl
    have h7 : DataW.trod enc Try.prog w base sp hd n7 4 (List.take (Try.prog.cellsOf 4) [v7, v8, v9, v10]) = some y7 := g7
    rw [c_0] at h7
    obtain ⟨a7, e7⟩ := opens_bool Try.underlying4 enc w base sp hd n7 [v7] y7 h7
    have r7 : v7 = _ := (List.cons.inj e7).1
    obtain ⟨n8, y8, g8⟩ := hf 8 _ rfl
    have h8 : DataW.trod enc Try.prog w base sp hd n8 3 (List.take (Try.prog.cellsOf 3) [v8, v9, v10]) = some y8 := g8
    rw [c_1] at h8
    obtain ⟨a8, e8⟩ := opens_int Try.underlying3 enc w base sp hd n8 [v8] y8 h8
    have r8 : v8 = _ := (List.cons.inj e8.1).1
    obtain ⟨n9, y9, g9⟩ := hf 9 _ rfl
    have h9 : DataW.trod enc Try.prog w base sp hd n9 3 (List.take (Try.prog.cellsOf 3) [v9, v10]) = some y9 := g9
    rw [c_1] at h9
    obtain ⟨a9, e9⟩ := opens_int Try.underlying3 enc w base sp hd n9 [v9] y9 h9
    have r9 : v9 = _ := (List.cons.inj e9.1).1
    obtain ⟨n10, y10, g10⟩ := hf 10 _ rfl
    have h10 : DataW.trod enc Try.prog w base sp hd n10 3 (List.take (Try.prog.cellsOf 3) [v10]) = some y10 := g10
    rw [c_1] at h10
    obtain ⟨a10, e10⟩ := opens_int Try.underlying3 enc w base sp hd n10 [v10] y10 h10
    have r10 : v10 = _ := (List.cons.inj e10.1).1
    exact ⟨⟨a0, a1, a2, a3, a4, a5, a6, a7, a8, a9, a10⟩, by rw [r0, r1, r2, r3, r4, r5, r6, r7, r8, r9, r10]; rfl, e0.2, e1.2, e2.2, e3.2, e4.2, e5.2, e6.2, e8.2, e9.2, e10.2⟩
set_option maxRecDepth 100000 in
theorem opens_Ops : Opens Try.prog 22 (fun w (xs : List OpT) cs => ∃ v, cs = [v] ∧ RdS w 11 OpT.enc v xs ∧ (∀ x ∈ xs, x.wf) ∧ (xs.length : Int) ≤ 9223372036854775807) :=
  Opens.mono (opens_slice opens_OpT Try.underlying22 (by kernel_rfl)) fun w xs cs ⟨v, h1, h2, h3⟩ =>
    have h := h2.plain (enc := OpT.enc) (ok := OpT.wf) fun _ _ h => h
    ⟨xs, v, h1, h.1, h.2, h3⟩
end Go.Proofs.Ytbeoedgoikcbpaa

namespace Go.Proofs.Ytbeoedgoikcbpaa
set_option linter.unusedSimpArgs false
set_option linter.unusedVariables false
set_option maxRecDepth 100000
open Go Go.Ann Go.RowKit
def numP (x : Int) (o : OpT) : Option (List Int × Int) :=
  if o.Method = 1 then some ([x], x)
  else if o.Kind = 1 ∧ o.Method = 2 then some ([o.Arg], 0)
  else if o.Kind = 1 ∧ o.Method = 3 then (if x = o.Arg then some ([o.Second], 1) else some ([x], 0))
  else if o.Kind = 2 ∧ o.Method = 4 then some ([IntKind.i64.wrap (x + 1)], 0)
  else if o.Kind = 2 ∧ o.Method = 5 then some ([IntKind.i64.wrap (x - 1)], 0)
  else none
def StepR (w w' : World) (v : Value) (r : Option (List Int × Int)) (t : Value) : Prop :=
  ∃ u a ok, t = .tuple #[u, .int .i64 a, .bool ok] ∧ match r with
    | none => ok = false
    | some (s, n) => ok = true ∧ a = n ∧ RdS w' 1 intE u s ∧ ∀ k, slFoot u k → v.ownBlock = some k ∨ w.heap.size ≤ k
theorem int_new {w : World} {b : Nat} (x : Int) (hb : b = w.heap.size) : RdS (w.alloc (.cells #[.int .i64 x] 3)) 1 intE (.slice (some ⟨b, 0, none⟩) 1 1) [x] := by
  subst hb
  exact rd_new (n := 1) (cs := #[.int .i64 x]) rfl
theorem number_ok (v : Value) (x : Int) (o : OpT) (w : World) (h : RdS w 1 intE v [x]) :
    Ret Try.prog 92 [v, .agg o.enc.toArray] w fun u w' => StepR w w' v (numP x o) u ∧ Below w.heap.size w w' := by
  obtain ⟨a, c, rfl, _⟩ := h.form
  obtain ⟨p, rfl⟩ := h.ptr (by simp)
  refine ent92 _ _ _ _ ?_
  have ho := o.at
  have hw1 : Below w.heap.size w (w.alloc (.cells o.enc.toArray 58)) := (Below.refl _ w).alloc (Nat.le_refl _) _
  have h1 := h.below hw1 (by decide)
  have ep := RdS.int h1 (k := 0) (by simp)
  rw [show p.add 0 = p from rfl, show ([x] : List Int)[0] = x from rfl] at ep
  have hw2 : Below w.heap.size w (w.alloc (.cells o.enc.toArray 58)).drew := hw1.drew
  have ep2 : (w.alloc (.cells o.enc.toArray 58)).drew.cell? p = some (.int .i64 x) := ep
  have lp : p.block < w.heap.size := h.blt intE_len (by decide) (by simp)
  have one : ∀ (n : Int) (K : Value → World → Prop), (∀ u w', RdS w' 1 intE u [n] → (∀ k, slFoot u k → w.heap.size ≤ k) → Below w.heap.size w w' → K u w') → bsW Try.prog 36 1 [0] [.int .i64 n] (w.alloc (.cells o.enc.toArray 58)) K := fun n K hK => by
    refine bsW_ones ty36mkI rfl rfl (by decide) (by decide) (intE_one n) ?_
    refine hK _ _ (int_new n rfl) (fun k hk => ?_) (Below.next hw1 ((Below.refl _ _).alloc (Nat.le_refl _) _))
    have := slFoot_own hk
    simp only [Value.ownBlock, Option.some.injEq, World.size_alloc] at this
    omega
  have no : ∀ {w' : World}, numP x o = none → StepR w w' (.slice (some p) 1 c) (numP x o) (.tuple #[.slice none 0 0, .int .i64 0, .bool false]) := fun e => ⟨_, _, _, rfl, by rw [e]⟩
  by_cases m1 : o.Method = 1
  · have e : numP x o = some ([x], x) := by unfold numP; rw [if_pos m1]
    simp (disch := first | omega | exact okFill_t rfl | exact okSize_t rfl | exact fun h => h | (simp only [World.size_alloc, World.size_drew, World.size_setCell, size_fill, bytesW]; omega)) only [go_sem, c92, c92S0, c92S1, c92S2, c92S3, ho, m1]
    refine c92draw0 ?_
    have hd2 : (w.alloc (.cells o.enc.toArray 58)).drew.heap.size = w.heap.size + 1 := by simp
    simp (disch := first | omega | exact okFill_t rfl | exact okSize_t rfl | exact fun h => h | (simp only [World.size_alloc, World.size_drew, World.size_setCell, size_fill, bytesW]; omega)) only [go_sem, c92, c92S0, c92S1, c92S2, c92S3, c92D0, ep, ep2]
    exact ⟨⟨_, _, _, rfl, by rw [e]; exact ⟨rfl, rfl, h.below hw2 (by decide), fun k hk => .inl (slFoot_own hk)⟩⟩, hw2⟩
  by_cases k1 : o.Kind = 1
  · by_cases m2 : o.Method = 2
    · have e : numP x o = some ([o.Arg], 0) := by unfold numP; rw [if_neg m1, if_pos ⟨k1, m2⟩]
      simp (disch := first | omega | exact okFill_t rfl | exact okSize_t rfl | exact fun h => h | (simp only [World.size_alloc, World.size_drew, World.size_setCell, size_fill, bytesW]; omega)) only [go_sem, c92, c92S0, c92S1, c92S2, c92S3, ho, k1, m2]
      refine one _ _ fun u w' hr hf hb => ?_
      simp (disch := first | omega | exact okFill_t rfl | exact okSize_t rfl | exact fun h => h | (simp only [World.size_alloc, World.size_drew, World.size_setCell, size_fill, bytesW]; omega)) only [go_sem, c92, c92S0, c92S1, c92S2, c92S3]
      exact ⟨⟨u, _, _, rfl, by rw [e]; exact ⟨rfl, rfl, hr, fun k hk => .inr (hf k hk)⟩⟩, hb⟩
    by_cases m3 : o.Method = 3
    · simp (disch := first | omega | exact okFill_t rfl | exact okSize_t rfl | exact fun h => h | (simp only [World.size_alloc, World.size_drew, World.size_setCell, size_fill, bytesW]; omega)) only [go_sem, c92, c92S0, c92S1, c92S2, c92S3, ho, k1, m3]
      refine c92draw1 ?_
      simp (disch := first | omega | exact okFill_t rfl | exact okSize_t rfl | exact fun h => h | (simp only [World.size_alloc, World.size_drew, World.size_setCell, size_fill, bytesW]; omega)) only [go_sem, c92, c92S0, c92S1, c92S2, c92S3, c92D1, ep, ep2, ho]
      refine ⟨fun e0 => ?_, fun e0 => ?_⟩
      · have e : numP x o = some ([o.Second], 1) := by unfold numP; simp [m1, k1, m2, m3, e0]
        refine bsW_ones ty36mkI rfl rfl (by decide) (by decide) (intE_one _) ?_
        simp (disch := first | omega | exact okFill_t rfl | exact okSize_t rfl | exact fun h => h | (simp only [World.size_alloc, World.size_drew, World.size_setCell, size_fill, bytesW]; omega)) only [go_sem, c92, c92S0, c92S1, c92S2, c92S3]
        have hi := int_new (w := w.alloc (.cells o.enc.toArray 58)) (b := w.heap.size + 1) o.Second (by simp)
        have bb := (Below.refl (w.alloc (.cells o.enc.toArray 58)).heap.size (w.alloc (.cells o.enc.toArray 58))).alloc (Nat.le_refl _) (.cells #[.int .i64 o.Second] 3)
        refine ⟨⟨_, _, _, rfl, by
          rw [e]
          refine ⟨rfl, rfl, hi.below (Below.refl _ _).drew (by decide), fun k hk => .inr ?_⟩
          have := slFoot_own hk
          simp only [Value.ownBlock, Option.some.injEq] at this
          omega⟩, (Below.next hw1 bb).drew⟩
      · have e : numP x o = some ([x], 0) := by unfold numP; simp [m1, k1, m2, m3, e0]
        exact ⟨⟨_, _, _, rfl, by rw [e]; exact ⟨rfl, rfl, h.below hw2 (by decide), fun k hk => .inl (slFoot_own hk)⟩⟩, hw2⟩
    · have e : numP x o = none := by unfold numP; simp [m1, k1, m2, m3]
      simp (disch := first | omega | exact okFill_t rfl | exact okSize_t rfl | exact fun h => h | (simp only [World.size_alloc, World.size_drew, World.size_setCell, size_fill, bytesW]; omega)) only [go_sem, c92, c92S0, c92S1, c92S2, c92S3, ho, k1, m1, m2, m3]
      exact ⟨no e, hw1⟩
  by_cases k2 : o.Kind = 2
  · by_cases m4 : o.Method = 4
    · have e : numP x o = some ([IntKind.i64.wrap (x + 1)], 0) := by unfold numP; simp [m4, k2]
      simp (disch := first | omega | exact okFill_t rfl | exact okSize_t rfl | exact fun h => h | (simp only [World.size_alloc, World.size_drew, World.size_setCell, size_fill, bytesW]; omega)) only [go_sem, c92, c92S0, c92S1, c92S2, c92S3, ho, k2, m4, ep]
      refine one _ _ fun u w' hr hf hb => ?_
      simp (disch := first | omega | exact okFill_t rfl | exact okSize_t rfl | exact fun h => h | (simp only [World.size_alloc, World.size_drew, World.size_setCell, size_fill, bytesW]; omega)) only [go_sem, c92, c92S0, c92S1, c92S2, c92S3]
      exact ⟨⟨u, _, _, rfl, by rw [e]; exact ⟨rfl, rfl, hr, fun k hk => .inr (hf k hk)⟩⟩, hb⟩
    by_cases m5 : o.Method = 5
    · have e : numP x o = some ([IntKind.i64.wrap (x - 1)], 0) := by unfold numP; simp [m5, k2]
      simp (disch := first | omega | exact okFill_t rfl | exact okSize_t rfl | exact fun h => h | (simp only [World.size_alloc, World.size_drew, World.size_setCell, size_fill, bytesW]; omega)) only [go_sem, c92, c92S0, c92S1, c92S2, c92S3, ho, k2, m5, ep]
      refine one _ _ fun u w' hr hf hb => ?_
      simp (disch := first | omega | exact okFill_t rfl | exact okSize_t rfl | exact fun h => h | (simp only [World.size_alloc, World.size_drew, World.size_setCell, size_fill, bytesW]; omega)) only [go_sem, c92, c92S0, c92S1, c92S2, c92S3]
      exact ⟨⟨u, _, _, rfl, by rw [e]; exact ⟨rfl, rfl, hr, fun k hk => .inr (hf k hk)⟩⟩, hb⟩
    · have e : numP x o = none := by unfold numP; simp [m1, k2, m4, m5]
      simp (disch := first | omega | exact okFill_t rfl | exact okSize_t rfl | exact fun h => h | (simp only [World.size_alloc, World.size_drew, World.size_setCell, size_fill, bytesW]; omega)) only [go_sem, c92, c92S0, c92S1, c92S2, c92S3, ho, k2, m1, m4, m5]
      exact ⟨no e, hw1⟩
  · have e : numP x o = none := by unfold numP; simp [m1, k1, k2]
    simp (disch := first | omega | exact okFill_t rfl | exact okSize_t rfl | exact fun h => h | (simp only [World.size_alloc, World.size_drew, World.size_setCell, size_fill, bytesW]; omega)) only [go_sem, c92, c92S0, c92S1, c92S2, c92S3, ho, k1, k2, m1]
    exact ⟨no e, hw1⟩
end Go.Proofs.Ytbeoedgoikcbpaa

namespace Go.Proofs.Ytbeoedgoikcbpaa
set_option linter.unusedSimpArgs false
set_option linter.unusedVariables false
set_option maxRecDepth 100000
open Go Go.Ann Go.RowKit
def listP (s : List Int) (o : OpT) : Option (List Int × Int) :=
  if (o.Kind = 3 ∧ o.Method = 6) ∨ (o.Kind = 4 ∧ o.Method = 8) then some (s ++ [o.Arg], 0)
  else if o.Kind = 3 ∧ o.Method = 7 then (match s with | [] => some ([], -1) | x :: r => some (r, x))
  else if o.Kind = 4 ∧ o.Method = 9 then (if h : s = [] then some ([], -1) else some (s.dropLast, s.getLast h))
  else none
theorem ints_take : ∀ (s : List Int) (k : Nat), (s.take k).flatMap intE = (s.flatMap intE).take k
  | [], k => by simp
  | x :: s, 0 => rfl
  | x :: s, k + 1 => by rw [List.take_succ_cons, List.flatMap_cons, List.flatMap_cons, ints_take s k]; rfl
theorem offA_own {ad : Addr} {c lo n m k : Nat} (h : slFoot (.slice (offA (some ad) c lo 1) n m) k) : ad.block = k := by
  have := slFoot_own h
  unfold offA at this
  split at this
  · simpa [Value.ownBlock] using this
  · simpa [Value.ownBlock, add_block] using this
theorem list_ok (v : Value) (s : List Int) (o : OpT) (w : World) (B : Nat) (hB : B ≤ w.heap.size) (h : w.ownsRow B 3 1 v s.length (s.flatMap intE)) (hl : s.length ≤ 1000000) :
    Ret Try.prog 93 [v, .agg o.enc.toArray] w fun u w' => StepR w w' v (listP s o) u ∧ Chg (fun k => v.ownBlock = some k) w w' := by
  obtain ⟨a, c, rfl, _⟩ := own_slice h
  refine ent93 _ _ _ _ ?_
  have ho := o.at
  have hw1 : Below w.heap.size w (w.alloc (.cells o.enc.toArray 58)) := (Below.refl _ w).alloc (Nat.le_refl _) _
  have hc1 : Chg (fun k => (Value.slice a s.length c).ownBlock = some k) w (w.alloc (.cells o.enc.toArray 58)) := Chg.of_below hw1
  have hr : RdS w 1 intE (.slice a s.length c) s := RdS.of_own' h s rfl rfl
  have no : ∀ {w' : World}, listP s o = none → StepR w w' (.slice a s.length c) (listP s o) (.tuple #[.slice none 0 0, .int .i64 0, .bool false]) := fun e => ⟨_, _, _, rfl, by rw [e]⟩
  have emp : s = [] → listP s o = some ([], -1) → StepR w (w.alloc (.cells o.enc.toArray 58)) (.slice a s.length c) (listP s o) (.tuple #[.slice a s.length c, .int .i64 (-1), .bool true]) := fun e e2 => ⟨_, _, _, rfl, by
    rw [e2]
    have := hr.below hw1 (by decide)
    subst e
    exact ⟨rfl, rfl, this, fun k hk => .inl (slFoot_own hk)⟩⟩
  have app : ∀ {ty : TypeId} {cs : Array Bool} {K : Value → World → Prop}, (∀ u w', RdS w' 1 intE u (s ++ [o.Arg]) → (∀ k, slFoot u k → (Value.slice a s.length c).ownBlock = some k ∨ w.heap.size ≤ k) → Chg (fun k => (Value.slice a s.length c).ownBlock = some k) w w' → K u w') →
      rawB Try.prog .append #[36, 36] ty cs [.slice a s.length c, .slice (some ⟨w.heap.size + 1, 0, none⟩) 1 1] ((w.alloc (.cells o.enc.toArray 58)).alloc (.cells #[.int .i64 o.Arg] 3)) K := by
    intro ty cs K hK
    have bb := (Below.refl (w.alloc (.cells o.enc.toArray 58)).heap.size (w.alloc (.cells o.enc.toArray 58))).alloc (Nat.le_refl _) (.cells #[.int .i64 o.Arg] 3)
    have hb2 := Below.next hw1 bb
    have ho2 := (Chg.of_below (S := fun _ => False) hb2).own h fun _ _ h => h
    have hi := int_new (w := w.alloc (.cells o.enc.toArray 58)) (b := w.heap.size + 1) o.Arg (by simp)
    obtain ⟨_, a', c', e, _, hp⟩ := hi
    cases e
    obtain ⟨ad, had, hcell⟩ := hp (by simp)
    cases had
    refine rawB_append (m := 1) ty36mkI rfl (by decide) ho2 (by simp [intE]) hcell (ints_one _) (by decide) (by omega) (by omega) (by have := hb2.size; omega) ?_
    intro g cap w' hown hg hgb hgl
    have hown' : w'.ownsRow B 3 1 (.slice (some ⟨g, 0, none⟩) (s.length + 1) cap) (s.length + 1) ((s ++ [o.Arg]).flatMap intE) := by
      rw [List.flatMap_append]; exact hown
    refine hK _ _ (RdS.of_own' hown' (s ++ [o.Arg]) (by simp) rfl) (fun k hk => ?_) ((Chg.of_below hb2).trans ⟨hg.os, hg.tape, hg.output, hg.size, fun k hk hS => hg.block k hk fun e => hS e.symm⟩)
    have := slFoot_own hk
    simp only [Value.ownBlock, Option.some.injEq] at this
    subst this
    rcases hgb with h | h
    · exact .inl h
    · right; rw [h]; simp; omega
  by_cases k3 : o.Kind = 3
  · by_cases m6 : o.Method = 6
    · simp (disch := first | omega | exact okFill_t rfl | exact okSize_t rfl | exact fun h => h | (simp only [World.size_alloc, World.size_drew, World.size_setCell, size_fill, bytesW]; omega)) only [go_sem, c93, c93S0, c93S1, c93S2, c93S3, c93S4, c93S5, c93S6, ho, k3, m6]
      refine bsW_ones ty36mkI rfl rfl (by decide) (by decide) (intE_one _) ?_
      simp (disch := first | omega | exact okFill_t rfl | exact okSize_t rfl | exact fun h => h | (simp only [World.size_alloc, World.size_drew, World.size_setCell, size_fill, bytesW]; omega)) only [go_sem, c93, c93S0, c93S1, c93S2, c93S3, c93S4, c93S5, c93S6]
      refine app fun u w' hu hf hc => ?_
      simp (disch := first | omega | exact okFill_t rfl | exact okSize_t rfl | exact fun h => h | (simp only [World.size_alloc, World.size_drew, World.size_setCell, size_fill, bytesW]; omega)) only [go_sem, c93, c93S0, c93S1, c93S2, c93S3, c93S4, c93S5, c93S6]
      exact ⟨⟨u, _, _, rfl, by rw [show listP s o = some (s ++ [o.Arg], 0) by unfold listP; simp [k3, m6]]; exact ⟨rfl, rfl, hu, hf⟩⟩, hc⟩
    by_cases m7 : o.Method = 7
    · simp (disch := first | omega | exact okFill_t rfl | exact okSize_t rfl | exact fun h => h | (simp only [World.size_alloc, World.size_drew, World.size_setCell, size_fill, bytesW]; omega)) only [go_sem, c93, c93S0, c93S1, c93S2, c93S3, c93S4, c93S5, c93S6, ho, k3, m7]
      refine ⟨fun h0 => ⟨emp (List.eq_nil_of_length_eq_zero (by omega)) (by have : s = [] := List.eq_nil_of_length_eq_zero (by omega); subst this; unfold listP; simp [k3, m7]), hc1⟩, fun h0 => ?_⟩
      have h0' : 0 < s.length := by omega
      obtain ⟨ad, rfl⟩ := hr.ptr h0'
      have hr2 : RdS (w.alloc (.cells o.enc.toArray 58)).drew 1 intE (.slice (some ad) s.length c) s := hr.below hw1.drew (by decide)
      have hcd : Chg (fun k => (Value.slice (some ad) s.length c).ownBlock = some k) w (w.alloc (.cells o.enc.toArray 58)).drew := Chg.of_below hw1.drew
      obtain ⟨x, r, rfl⟩ : ∃ x r, s = x :: r := by
        cases s with
        | nil => simp at h0'
        | cons x r => exact ⟨x, r, rfl⟩
      have ep := RdS.int hr2 (k := 0) h0'
      rw [show ad.add 0 = ad from rfl, show (x :: r)[0] = x from rfl] at ep
      refine c93draw0 ?_
      simp (disch := first | omega | exact okFill_t rfl | exact okSize_t rfl | exact fun h => h | (simp only [World.size_alloc, World.size_drew, World.size_setCell, size_fill, bytesW]; omega)) only [go_sem, c93, c93S0, c93S1, c93S2, c93S3, c93S4, c93S5, c93S6, c93D0, ep]
      refine ⟨by omega, by omega, ⟨_, _, _, rfl, ?_⟩⟩
      rw [show listP (x :: r) o = some (r, x) by unfold listP; simp [k3, m7]]
      refine ⟨rfl, rfl, ?_, fun k hk => .inl ?_⟩
      · have := rd_drop (k := 1) (show Rd _ 1 (.slice (some ad) (x :: r).length c) (x :: r).length ((x :: r).flatMap intE) from hr2) (by simp)
        exact this
      · rw [← offA_own hk]; rfl
    · simp (disch := first | omega | exact okFill_t rfl | exact okSize_t rfl | exact fun h => h | (simp only [World.size_alloc, World.size_drew, World.size_setCell, size_fill, bytesW]; omega)) only [go_sem, c93, c93S0, c93S1, c93S2, c93S3, c93S4, c93S5, c93S6, ho, k3, m6, m7]
      exact ⟨no (by unfold listP; simp [k3, m6, m7]), hc1⟩
  by_cases k4 : o.Kind = 4
  · by_cases m8 : o.Method = 8
    · simp (disch := first | omega | exact okFill_t rfl | exact okSize_t rfl | exact fun h => h | (simp only [World.size_alloc, World.size_drew, World.size_setCell, size_fill, bytesW]; omega)) only [go_sem, c93, c93S0, c93S1, c93S2, c93S3, c93S4, c93S5, c93S6, ho, k4, m8]
      refine bsW_ones ty36mkI rfl rfl (by decide) (by decide) (intE_one _) ?_
      simp (disch := first | omega | exact okFill_t rfl | exact okSize_t rfl | exact fun h => h | (simp only [World.size_alloc, World.size_drew, World.size_setCell, size_fill, bytesW]; omega)) only [go_sem, c93, c93S0, c93S1, c93S2, c93S3, c93S4, c93S5, c93S6]
      refine app fun u w' hu hf hc => ?_
      simp (disch := first | omega | exact okFill_t rfl | exact okSize_t rfl | exact fun h => h | (simp only [World.size_alloc, World.size_drew, World.size_setCell, size_fill, bytesW]; omega)) only [go_sem, c93, c93S0, c93S1, c93S2, c93S3, c93S4, c93S5, c93S6]
      exact ⟨⟨u, _, _, rfl, by rw [show listP s o = some (s ++ [o.Arg], 0) by unfold listP; simp [k4, m8]]; exact ⟨rfl, rfl, hu, hf⟩⟩, hc⟩
    by_cases m9 : o.Method = 9
    · simp (disch := first | omega | exact okFill_t rfl | exact okSize_t rfl | exact fun h => h | (simp only [World.size_alloc, World.size_drew, World.size_setCell, size_fill, bytesW]; omega)) only [go_sem, c93, c93S0, c93S1, c93S2, c93S3, c93S4, c93S5, c93S6, ho, k4, m9]
      refine ⟨fun h0 => ⟨emp (List.eq_nil_of_length_eq_zero (by omega)) (by have : s = [] := List.eq_nil_of_length_eq_zero (by omega); subst this; unfold listP; simp [k4, m9]), hc1⟩, fun h0 => ?_⟩
      have h0' : 0 < s.length := by omega
      obtain ⟨ad, rfl⟩ := hr.ptr h0'
      have hr2 : RdS (w.alloc (.cells o.enc.toArray 58)).drew 1 intE (.slice (some ad) s.length c) s := hr.below hw1.drew (by decide)
      have hcd : Chg (fun k => (Value.slice (some ad) s.length c).ownBlock = some k) w (w.alloc (.cells o.enc.toArray 58)).drew := Chg.of_below hw1.drew
      have hne : s ≠ [] := fun e => by subst e; simp at h0'
      have ep := RdS.int hr2 (k := s.length - 1) (by omega)
      have ti : ((s.length : Int) - 1).toNat = s.length - 1 := by omega
      refine c93draw1 ?_
      simp (disch := first | omega | exact okFill_t rfl | exact okSize_t rfl | exact fun h => h | (simp only [World.size_alloc, World.size_drew, World.size_setCell, size_fill, bytesW]; omega)) only [go_sem, c93, c93S0, c93S1, c93S2, c93S3, c93S4, c93S5, c93S6, c93D1, ti, ep]
      have hcap : s.length ≤ c := by
        obtain ⟨_, c', e, hc⟩ := hr.form
        cases e; exact hc
      refine ⟨⟨by omega, by omega⟩, ⟨by omega, by omega⟩, ⟨by omega, by omega⟩, ⟨by omega, by omega⟩, ⟨_, _, _, rfl, ?_⟩⟩
      rw [show listP s o = some (s.dropLast, s.getLast hne) by unfold listP; simp [k4, m9, hne]]
      refine ⟨rfl, (List.getLast_eq_getElem hne).symm, ?_, fun k hk => .inl ?_⟩
      · have := rd_take (k := s.length - 1) (show Rd _ 1 (.slice (some ad) s.length c) s.length (s.flatMap intE) from hr2) (by omega)
        have e : s.dropLast.flatMap intE = (s.flatMap intE).take ((s.length - 1) * 1) := by
          rw [Nat.mul_one, List.dropLast_eq_take]
          exact ints_take s _
        have e2 : s.dropLast.length = s.length - 1 := List.length_dropLast
        unfold RdS
        rw [e, e2]
        exact this
      · rw [← offA_own hk]; rfl
    · simp (disch := first | omega | exact okFill_t rfl | exact okSize_t rfl | exact fun h => h | (simp only [World.size_alloc, World.size_drew, World.size_setCell, size_fill, bytesW]; omega)) only [go_sem, c93, c93S0, c93S1, c93S2, c93S3, c93S4, c93S5, c93S6, ho, k4, m8, m9]
      exact ⟨no (by unfold listP; simp [k4, m8, m9]), hc1⟩
  · simp (disch := first | omega | exact okFill_t rfl | exact okSize_t rfl | exact fun h => h | (simp only [World.size_alloc, World.size_drew, World.size_setCell, size_fill, bytesW]; omega)) only [go_sem, c93, c93S0, c93S1, c93S2, c93S3, c93S4, c93S5, c93S6, ho, k3, k4]
    exact ⟨no (by unfold listP; simp [k3, k4]), hc1⟩
end Go.Proofs.Ytbeoedgoikcbpaa

namespace Go.Proofs.Ytbeoedgoikcbpaa
set_option linter.unusedSimpArgs false
set_option linter.unusedVariables false
set_option maxRecDepth 100000
open Go Go.Ann Go.RowKit Go.Shelf
theorem drewN_below {w : World} (q : Nat) : Below w.heap.size w (w.drewN q) := ⟨rfl, rfl, rfl, Nat.le_refl _, fun _ _ => rfl⟩
theorem bsearch_ok (v : Value) (s : List Int) (x : Int) (w : World) (h : RdS w 1 intE v s) (hv : ∀ a n c, v = .slice (some a) n c → n ≠ 0 → a.spot = none) (hl : s.length ≤ 1000000) (hs : s.Pairwise (· ≤ ·)) :
    Ret Try.prog 121 [v, .int .i64 x] w fun u w' => u = .tuple #[.int .i64 (s.countP (· < x) : Nat), .bool (s.contains x)] ∧ Below w.heap.size w w' := by
  obtain ⟨a, c, rfl, _⟩ := h.form
  rcases Nat.eq_zero_or_pos s.length with h0 | h0
  · have e : s = [] := List.eq_nil_of_length_eq_zero h0
    subst e
    exact (Any.slices_BinarySearch_int_empty layBin a c x w).mono fun e w' ⟨h1, h2⟩ => ⟨_, h1, rfl, by rw [h2]; exact Below.refl _ _⟩
  · obtain ⟨ad, rfl⟩ := h.ptr h0
    have hsp := hv ad _ _ rfl (by omega)
    have had : ad = ⟨ad.block, ad.off, none⟩ := by cases ad; simp only at hsp; subst hsp; rfl
    have hc : ∀ j, j < s.length → w.cell? ⟨ad.block, ad.off + j, none⟩ = some (.int .i64 (s.getD j 0)) := fun j hj => by
      have := RdS.int h hj
      rw [had, Addr.add_lit] at this
      rw [this, List.getD_eq_getElem?_getD, List.getElem?_eq_getElem hj]; rfl
    have := Any.slices_BinarySearch_int layBin ad.block ad.off s.length c s x w (Nat.le_refl _) (by omega) hc (by rw [List.take_length]; exact hs)
    rw [List.take_length, ← had] at this
    exact this.mono fun e w' ⟨h1, q, h2⟩ => ⟨_, h1, rfl, by rw [h2]; exact drewN_below q⟩
end Go.Proofs.Ytbeoedgoikcbpaa

namespace Go.Proofs.Ytbeoedgoikcbpaa
set_option linter.unusedSimpArgs false
set_option linter.unusedVariables false
set_option maxRecDepth 100000
open Go Go.Ann Go.RowKit Go.Shelf Go.Sort
theorem delete_ok (g cap i : Nat) (s : List Int) (rest : List Value) (w : World) (hB : Blk w g (s.map (Value.int .i64) ++ rest).toArray 3) (hc : s.length ≤ cap) (hm : cap ≤ 9223372036854775807) (hi : i < s.length) :
    Ret Try.prog 124 [.slice (some ⟨g, 0, none⟩) s.length cap, .int .i64 i, .int .i64 (i + 1)] w fun u w' =>
      u = .slice (some ⟨g, 0, none⟩) (s.length - 1) cap ∧ (∃ rest', Blk w' g ((s.take i ++ s.drop (i + 1)).map (Value.int .i64) ++ rest').toArray 3) ∧ Chg (fun k => k = g) w w' := by
  have hH : Holds (Value.int .i64) w g 0 s.toArray := by
    intro j hj
    have hj' : j < s.length := by simpa using hj
    rw [hB.cell, hB.frozen]
    refine ⟨?_, rfl⟩
    rw [List.getElem?_toArray, Nat.zero_add, List.getElem?_append_left (by simpa using hj'), List.getElem?_map, List.getElem?_eq_getElem hj', getElem!_pos s.toArray j hj]
    rfl
  have h := Any.slices_Delete_int layDel g 0 cap i (i + 1) s w hH hc hm (by omega) (by omega)
  refine h.mono ?_
  rintro e w' ⟨rfl, q, rfl⟩
  have hsz : (s.take i ++ s.drop (i + 1) ++ List.replicate (i + 1 - i) 0).toArray.size = s.toArray.size := by simp; omega
  have hb := sorted_blk (m := q) (d := s.toArray) (rest := rest) (enc := Value.int .i64) (by simpa using hB) hsz #[]
  have e : sortWorld (Value.int .i64) w g 0 q (s.take i ++ s.drop (i + 1) ++ List.replicate (i + 1 - i) 0).toArray #[] = putRow (Value.int .i64) (Sort.ahead w q) g 0 (s.take i ++ s.drop (i + 1) ++ List.replicate (i + 1 - i) 0).toArray := grow_empty _
  rw [e] at hb
  refine ⟨_, rfl, by rw [show i + 1 - i = 1 by omega], ⟨(List.replicate (i + 1 - i) (0 : Int)).map (Value.int .i64) ++ rest, ?_⟩, hb.2⟩
  have := hb.1
  simp only [List.toList_toArray, List.map_append, List.append_assoc] at this ⊢
  exact this
end Go.Proofs.Ytbeoedgoikcbpaa

namespace Go.Proofs.Ytbeoedgoikcbpaa
set_option linter.unusedSimpArgs false
set_option linter.unusedVariables false
set_option maxRecDepth 100000
open Go Go.Ann Go.RowKit
def StepA (w w' : World) (v : Value) (r : Option (List Int × Int)) (t : Value) : Prop :=
  ∃ u a ok, t = .agg #[u, .int .i64 a, .bool ok] ∧ (∃ b n c, u = .slice b n c) ∧ match r with
    | none => ok = false
    | some (s, n) => ok = true ∧ a = n ∧ RdS w' 1 intE u s ∧ ∀ k, slFoot u k → slFoot v k ∨ w.heap.size ≤ k
theorem rnumber_ok (v : Value) (x : Int) (o : OpT) (w : World) (h : RdS w 1 intE v [x]) :
    Ret Try.prog 106 [v, .agg o.enc.toArray] w fun u w' => StepA w w' v (numP x o) u ∧ Below w.heap.size w w' := by
  obtain ⟨a, c, rfl, _⟩ := h.form
  obtain ⟨p, rfl⟩ := h.ptr (by simp)
  refine ent106 _ _ _ _ ?_
  have ho := o.at
  have s2 := ((St.start (W0 := w)).box o.enc.toArray 58).box #[.slice none 0 0, .int .i64 0, .bool false] 117
  rw [World.size_alloc] at s2
  have ep := RdS.int (h.below s2.bel (by decide)) (k := 0) (by simp)
  rw [show p.add 0 = p from rfl, show ([x] : List Int)[0] = x from rfl] at ep
  have lp : p.block < w.heap.size := h.blt intE_len (by decide) (by simp)
  have r0 := s2.rules 1 rfl
  have r1 := s2.rules 0 rfl
  have s3 := s2.drew
  have r3 := s3.rules 0 rfl
  by_cases m1 : o.Method = 1
  · simp (disch := first | omega | exact okFill_t rfl | exact okSize_t rfl | exact fun h => h | (simp only [World.size_alloc, World.size_drew, World.size_setCell, size_fill, bytesW]; omega)) only [go_sem, c106, c106S0, c106S1, c106S2, c106S3, c106S4, c106S5, c106S6, c106S7, ho, m1, ep, r1]
    have e : numP x o = some ([x], x) := by unfold numP; rw [if_pos m1]
    refine bdW_built (cells := #[.slice (some p) 1 c, .int .i64 x, .bool true]) (by kernel_rfl) ?_
    simp (disch := first | omega | exact okFill_t rfl | exact okSize_t rfl | exact fun h => h | (simp only [World.size_alloc, World.size_drew, World.size_setCell, size_fill, bytesW]; omega)) only [go_sem, c106, c106S0, c106S1, c106S2, c106S3, c106S4, c106S5, c106S6, c106S7, r1]
    have s5 := s2.fill 0 rfl (cs := #[.slice (some p) 1 c, .int .i64 x, .bool true]) rfl
    refine ⟨⟨_, _, _, rfl, ⟨_, _, _, rfl⟩, ?_⟩, s5.bel⟩
    rw [e]
    exact ⟨rfl, rfl, h.below s5.bel (by decide), fun k hk => .inl hk⟩
  by_cases k1 : o.Kind = 1
  · by_cases m2 : o.Method = 2
    · simp (disch := first | omega | exact okFill_t rfl | exact okSize_t rfl | exact fun h => h | (simp only [World.size_alloc, World.size_drew, World.size_setCell, size_fill, bytesW]; omega)) only [go_sem, c106, c106S0, c106S1, c106S2, c106S3, c106S4, c106S5, c106S6, c106S7, ho, k1, m2]
      have e : numP x o = some ([o.Arg], 0) := by unfold numP; rw [if_neg m1, if_pos ⟨k1, m2⟩]
      refine bsW_ones ty36mkI rfl rfl (by decide) (by decide) (intE_one _) ?_
      simp (disch := first | omega | exact okFill_t rfl | exact okSize_t rfl | exact fun h => h | (simp only [World.size_alloc, World.size_drew, World.size_setCell, size_fill, bytesW]; omega)) only [go_sem, c106, c106S0, c106S1, c106S2, c106S3, c106S4, c106S5, c106S6, c106S7]
      refine bdW_built (cells := #[.slice (some ⟨w.heap.size + 2, 0, none⟩) 1 1, .int .i64 0, .bool true]) (by kernel_rfl) ?_
      have s4 := s2.alloc' (.cells #[.int .i64 o.Arg] 3)
      have r4 := s4.rules 0 rfl
      simp (disch := first | omega | exact okFill_t rfl | exact okSize_t rfl | exact fun h => h | (simp only [World.size_alloc, World.size_drew, World.size_setCell, size_fill, bytesW]; omega)) only [go_sem, c106, c106S0, c106S1, c106S2, c106S3, c106S4, c106S5, c106S6, c106S7, r4]
      have hn : RdS _ 1 intE (.slice (some ⟨w.heap.size + 2, 0, none⟩) 1 1) [o.Arg] := (int_new (w := (w.alloc (.cells o.enc.toArray 58)).alloc (.cells #[.slice none 0 0, .int .i64 0, .bool false] 117)) o.Arg (by simp)).chg (S := fun k => k = w.heap.size + 1) ((Chg.refl _ _).fill (b := w.heap.size + 1) (cs := #[.slice (some ⟨w.heap.size + 2, 0, none⟩) 1 1, .int .i64 0, .bool true]) fun _ => rfl) (fun q hq e => by cases hq; simp at e)
      refine ⟨⟨_, _, _, rfl, ⟨_, _, _, rfl⟩, ?_⟩, (s4.fill 0 rfl (cs := #[.slice (some ⟨w.heap.size + 2, 0, none⟩) 1 1, .int .i64 0, .bool true]) rfl).bel⟩
      rw [e]
      refine ⟨rfl, rfl, hn, fun k hk => .inr ?_⟩
      have := slFoot_own hk
      simp only [Value.ownBlock, Option.some.injEq] at this
      omega
    by_cases m3 : o.Method = 3
    · simp (disch := first | omega | exact okFill_t rfl | exact okSize_t rfl | exact fun h => h | (simp only [World.size_alloc, World.size_drew, World.size_setCell, size_fill, bytesW]; omega)) only [go_sem, c106, c106S0, c106S1, c106S2, c106S3, c106S4, c106S5, c106S6, c106S7, ho, k1, m3]
      refine c106draw0 ?_
      simp (disch := first | omega | exact okFill_t rfl | exact okSize_t rfl | exact fun h => h | (simp only [World.size_alloc, World.size_drew, World.size_setCell, size_fill, bytesW]; omega)) only [go_sem, c106, c106S0, c106S1, c106S2, c106S3, c106S4, c106S5, c106S6, c106S7, c106D0, ep, ho, k1, m3]
      refine ⟨fun e0 => ?_, fun e0 => ?_⟩
      · have e : numP x o = some ([o.Second], 1) := by unfold numP; simp [m1, k1, m2, m3, e0]
        refine bsW_ones ty36mkI rfl rfl (by decide) (by decide) (intE_one _) ?_
        simp (disch := first | omega | exact okFill_t rfl | exact okSize_t rfl | exact fun h => h | (simp only [World.size_alloc, World.size_drew, World.size_setCell, size_fill, bytesW]; omega)) only [go_sem, c106, c106S0, c106S1, c106S2, c106S3, c106S4, c106S5, c106S6, c106S7]
        refine bdW_built (cells := #[.slice (some ⟨w.heap.size + 2, 0, none⟩) 1 1, .int .i64 1, .bool true]) (by kernel_rfl) ?_
        have s4 := s3.alloc' (.cells #[.int .i64 o.Second] 3)
        have r4 := s4.rules 0 rfl
        simp (disch := first | omega | exact okFill_t rfl | exact okSize_t rfl | exact fun h => h | (simp only [World.size_alloc, World.size_drew, World.size_setCell, size_fill, bytesW]; omega)) only [go_sem, c106, c106S0, c106S1, c106S2, c106S3, c106S4, c106S5, c106S6, c106S7, r4]
        have hn : RdS _ 1 intE (.slice (some ⟨w.heap.size + 2, 0, none⟩) 1 1) [o.Second] := (int_new (w := (w.alloc (.cells o.enc.toArray 58)).alloc (.cells #[.slice none 0 0, .int .i64 0, .bool false] 117)) o.Second (by simp)).chg (S := fun k => k = w.heap.size + 1) (((Chg.refl _ _).drew).fill (b := w.heap.size + 1) (cs := #[.slice (some ⟨w.heap.size + 2, 0, none⟩) 1 1, .int .i64 1, .bool true]) fun _ => rfl) (fun q hq e => by cases hq; simp at e)
        refine ⟨⟨_, _, _, rfl, ⟨_, _, _, rfl⟩, ?_⟩, (s4.fill 0 rfl (cs := #[.slice (some ⟨w.heap.size + 2, 0, none⟩) 1 1, .int .i64 1, .bool true]) rfl).bel⟩
        rw [e]
        refine ⟨rfl, rfl, hn, fun k hk => .inr ?_⟩
        have := slFoot_own hk
        simp only [Value.ownBlock, Option.some.injEq] at this
        omega
      · have e : numP x o = some ([x], 0) := by unfold numP; simp [m1, k1, m2, m3, e0]
        refine bdW_built (cells := #[.slice (some p) 1 c, .int .i64 0, .bool true]) (by kernel_rfl) ?_
        simp (disch := first | omega | exact okFill_t rfl | exact okSize_t rfl | exact fun h => h | (simp only [World.size_alloc, World.size_drew, World.size_setCell, size_fill, bytesW]; omega)) only [go_sem, c106, c106S0, c106S1, c106S2, c106S3, c106S4, c106S5, c106S6, c106S7, r3]
        have s5 := s3.fill 0 rfl (cs := #[.slice (some p) 1 c, .int .i64 0, .bool true]) rfl
        refine ⟨⟨_, _, _, rfl, ⟨_, _, _, rfl⟩, ?_⟩, s5.bel⟩
        rw [e]
        exact ⟨rfl, rfl, h.below s5.bel (by decide), fun k hk => .inl hk⟩
    · simp (disch := first | omega | exact okFill_t rfl | exact okSize_t rfl | exact fun h => h | (simp only [World.size_alloc, World.size_drew, World.size_setCell, size_fill, bytesW]; omega)) only [go_sem, c106, c106S0, c106S1, c106S2, c106S3, c106S4, c106S5, c106S6, c106S7, ho, k1, m1, m2, m3]
      refine c106draw0 ?_
      simp (disch := first | omega | exact okFill_t rfl | exact okSize_t rfl | exact fun h => h | (simp only [World.size_alloc, World.size_drew, World.size_setCell, size_fill, bytesW]; omega)) only [go_sem, c106, c106S0, c106S1, c106S2, c106S3, c106S4, c106S5, c106S6, c106S7, c106D0, ep, ho, k1, m1, m2, m3]
      have e : numP x o = none := by unfold numP; simp [k1, m1, m2, m3]
      refine bdW_built (cells := #[.slice none 0 0, .int .i64 0, .bool false]) (by kernel_rfl) ?_
      simp (disch := first | omega | exact okFill_t rfl | exact okSize_t rfl | exact fun h => h | (simp only [World.size_alloc, World.size_drew, World.size_setCell, size_fill, bytesW]; omega)) only [go_sem, c106, c106S0, c106S1, c106S2, c106S3, c106S4, c106S5, c106S6, c106S7, r3]
      exact ⟨⟨_, _, _, rfl, ⟨_, _, _, rfl⟩, by rw [e]⟩, (s3.fill 0 rfl (cs := #[.slice none 0 0, .int .i64 0, .bool false]) rfl).bel⟩
  by_cases k2 : o.Kind = 2
  · by_cases m4 : o.Method = 4
    · simp (disch := first | omega | exact okFill_t rfl | exact okSize_t rfl | exact fun h => h | (simp only [World.size_alloc, World.size_drew, World.size_setCell, size_fill, bytesW]; omega)) only [go_sem, c106, c106S0, c106S1, c106S2, c106S3, c106S4, c106S5, c106S6, c106S7, ho, k2, m4]
      refine c106draw0 ?_
      simp (disch := first | omega | exact okFill_t rfl | exact okSize_t rfl | exact fun h => h | (simp only [World.size_alloc, World.size_drew, World.size_setCell, size_fill, bytesW]; omega)) only [go_sem, c106, c106S0, c106S1, c106S2, c106S3, c106S4, c106S5, c106S6, c106S7, c106D0, ep, ho, k2, m4]
      have e : numP x o = some ([IntKind.i64.wrap (x + 1)], 0) := by unfold numP; simp [k2, m4]
      refine bsW_ones ty36mkI rfl rfl (by decide) (by decide) (intE_one _) ?_
      simp (disch := first | omega | exact okFill_t rfl | exact okSize_t rfl | exact fun h => h | (simp only [World.size_alloc, World.size_drew, World.size_setCell, size_fill, bytesW]; omega)) only [go_sem, c106, c106S0, c106S1, c106S2, c106S3, c106S4, c106S5, c106S6, c106S7]
      refine bdW_built (cells := #[.slice (some ⟨w.heap.size + 2, 0, none⟩) 1 1, .int .i64 0, .bool true]) (by kernel_rfl) ?_
      have s4 := s3.alloc' (.cells #[.int .i64 (IntKind.i64.wrap (x + 1))] 3)
      have r4 := s4.rules 0 rfl
      simp (disch := first | omega | exact okFill_t rfl | exact okSize_t rfl | exact fun h => h | (simp only [World.size_alloc, World.size_drew, World.size_setCell, size_fill, bytesW]; omega)) only [go_sem, c106, c106S0, c106S1, c106S2, c106S3, c106S4, c106S5, c106S6, c106S7, r4]
      have hn : RdS _ 1 intE (.slice (some ⟨w.heap.size + 2, 0, none⟩) 1 1) [IntKind.i64.wrap (x + 1)] := (int_new (w := (w.alloc (.cells o.enc.toArray 58)).alloc (.cells #[.slice none 0 0, .int .i64 0, .bool false] 117)) (IntKind.i64.wrap (x + 1)) (by simp)).chg (S := fun k => k = w.heap.size + 1) (((Chg.refl _ _).drew).fill (b := w.heap.size + 1) (cs := #[.slice (some ⟨w.heap.size + 2, 0, none⟩) 1 1, .int .i64 0, .bool true]) fun _ => rfl) (fun q hq e => by cases hq; simp at e)
      refine ⟨⟨_, _, _, rfl, ⟨_, _, _, rfl⟩, ?_⟩, (s4.fill 0 rfl (cs := #[.slice (some ⟨w.heap.size + 2, 0, none⟩) 1 1, .int .i64 0, .bool true]) rfl).bel⟩
      rw [e]
      refine ⟨rfl, rfl, hn, fun k hk => .inr ?_⟩
      have := slFoot_own hk
      simp only [Value.ownBlock, Option.some.injEq] at this
      omega
    by_cases m5 : o.Method = 5
    · simp (disch := first | omega | exact okFill_t rfl | exact okSize_t rfl | exact fun h => h | (simp only [World.size_alloc, World.size_drew, World.size_setCell, size_fill, bytesW]; omega)) only [go_sem, c106, c106S0, c106S1, c106S2, c106S3, c106S4, c106S5, c106S6, c106S7, ho, k2, m5]
      refine c106draw0 ?_
      simp (disch := first | omega | exact okFill_t rfl | exact okSize_t rfl | exact fun h => h | (simp only [World.size_alloc, World.size_drew, World.size_setCell, size_fill, bytesW]; omega)) only [go_sem, c106, c106S0, c106S1, c106S2, c106S3, c106S4, c106S5, c106S6, c106S7, c106D0, ep, ho, k2, m5]
      have e : numP x o = some ([IntKind.i64.wrap (x - 1)], 0) := by unfold numP; simp [k2, m5]
      refine bsW_ones ty36mkI rfl rfl (by decide) (by decide) (intE_one _) ?_
      simp (disch := first | omega | exact okFill_t rfl | exact okSize_t rfl | exact fun h => h | (simp only [World.size_alloc, World.size_drew, World.size_setCell, size_fill, bytesW]; omega)) only [go_sem, c106, c106S0, c106S1, c106S2, c106S3, c106S4, c106S5, c106S6, c106S7]
      refine bdW_built (cells := #[.slice (some ⟨w.heap.size + 2, 0, none⟩) 1 1, .int .i64 0, .bool true]) (by kernel_rfl) ?_
      have s4 := s3.alloc' (.cells #[.int .i64 (IntKind.i64.wrap (x - 1))] 3)
      have r4 := s4.rules 0 rfl
      simp (disch := first | omega | exact okFill_t rfl | exact okSize_t rfl | exact fun h => h | (simp only [World.size_alloc, World.size_drew, World.size_setCell, size_fill, bytesW]; omega)) only [go_sem, c106, c106S0, c106S1, c106S2, c106S3, c106S4, c106S5, c106S6, c106S7, r4]
      have hn : RdS _ 1 intE (.slice (some ⟨w.heap.size + 2, 0, none⟩) 1 1) [IntKind.i64.wrap (x - 1)] := (int_new (w := (w.alloc (.cells o.enc.toArray 58)).alloc (.cells #[.slice none 0 0, .int .i64 0, .bool false] 117)) (IntKind.i64.wrap (x - 1)) (by simp)).chg (S := fun k => k = w.heap.size + 1) (((Chg.refl _ _).drew).fill (b := w.heap.size + 1) (cs := #[.slice (some ⟨w.heap.size + 2, 0, none⟩) 1 1, .int .i64 0, .bool true]) fun _ => rfl) (fun q hq e => by cases hq; simp at e)
      refine ⟨⟨_, _, _, rfl, ⟨_, _, _, rfl⟩, ?_⟩, (s4.fill 0 rfl (cs := #[.slice (some ⟨w.heap.size + 2, 0, none⟩) 1 1, .int .i64 0, .bool true]) rfl).bel⟩
      rw [e]
      refine ⟨rfl, rfl, hn, fun k hk => .inr ?_⟩
      have := slFoot_own hk
      simp only [Value.ownBlock, Option.some.injEq] at this
      omega
    · simp (disch := first | omega | exact okFill_t rfl | exact okSize_t rfl | exact fun h => h | (simp only [World.size_alloc, World.size_drew, World.size_setCell, size_fill, bytesW]; omega)) only [go_sem, c106, c106S0, c106S1, c106S2, c106S3, c106S4, c106S5, c106S6, c106S7, ho, k2, m1, m4, m5]
      refine c106draw0 ?_
      simp (disch := first | omega | exact okFill_t rfl | exact okSize_t rfl | exact fun h => h | (simp only [World.size_alloc, World.size_drew, World.size_setCell, size_fill, bytesW]; omega)) only [go_sem, c106, c106S0, c106S1, c106S2, c106S3, c106S4, c106S5, c106S6, c106S7, c106D0, ep, ho, k2, m1, m4, m5]
      have e : numP x o = none := by unfold numP; simp [k2, m1, m4, m5]
      refine bdW_built (cells := #[.slice none 0 0, .int .i64 0, .bool false]) (by kernel_rfl) ?_
      simp (disch := first | omega | exact okFill_t rfl | exact okSize_t rfl | exact fun h => h | (simp only [World.size_alloc, World.size_drew, World.size_setCell, size_fill, bytesW]; omega)) only [go_sem, c106, c106S0, c106S1, c106S2, c106S3, c106S4, c106S5, c106S6, c106S7, r3]
      exact ⟨⟨_, _, _, rfl, ⟨_, _, _, rfl⟩, by rw [e]⟩, (s3.fill 0 rfl (cs := #[.slice none 0 0, .int .i64 0, .bool false]) rfl).bel⟩
  · simp (disch := first | omega | exact okFill_t rfl | exact okSize_t rfl | exact fun h => h | (simp only [World.size_alloc, World.size_drew, World.size_setCell, size_fill, bytesW]; omega)) only [go_sem, c106, c106S0, c106S1, c106S2, c106S3, c106S4, c106S5, c106S6, c106S7, ho, k1, k2, m1]
    have e : numP x o = none := by unfold numP; simp [k1, k2, m1]
    refine c106draw0 ?_
    simp (disch := first | omega | exact okFill_t rfl | exact okSize_t rfl | exact fun h => h | (simp only [World.size_alloc, World.size_drew, World.size_setCell, size_fill, bytesW]; omega)) only [go_sem, c106, c106S0, c106S1, c106S2, c106S3, c106S4, c106S5, c106S6, c106S7, c106D0, ep, ho, k1, k2, m1]
    refine bdW_built (cells := #[.slice none 0 0, .int .i64 0, .bool false]) (by kernel_rfl) ?_
    simp (disch := first | omega | exact okFill_t rfl | exact okSize_t rfl | exact fun h => h | (simp only [World.size_alloc, World.size_drew, World.size_setCell, size_fill, bytesW]; omega)) only [go_sem, c106, c106S0, c106S1, c106S2, c106S3, c106S4, c106S5, c106S6, c106S7, r3]
    exact ⟨⟨_, _, _, rfl, ⟨_, _, _, rfl⟩, by rw [e]⟩, (s3.fill 0 rfl (cs := #[.slice none 0 0, .int .i64 0, .bool false]) rfl).bel⟩
end Go.Proofs.Ytbeoedgoikcbpaa

namespace Go.Proofs.Ytbeoedgoikcbpaa
set_option linter.unusedSimpArgs false
set_option linter.unusedVariables false
set_option maxRecDepth 100000
open Go Go.Ann Go.RowKit
theorem without_ok (v : Value) (s : List Int) (n : Int) (w : World) (h : RdS w 1 intE v s) (hl : s.length ≤ 1000000) :
    Ret Try.prog 107 [v, .int .i64 n] w fun u w' => w'.ownsRow w.heap.size 3 1 u (s.filter (fun x => !decide (x = n))).length ((s.filter (fun x => !decide (x = n))).flatMap intE) ∧ Below w.heap.size w w' := by
  obtain ⟨a, c, rfl, _⟩ := h.form
  refine ent107 _ _ _ _ ?_
  simp (disch := first | omega | exact okFill_t rfl | exact okSize_t rfl | exact fun h => h | (simp only [World.size_alloc, World.size_drew, World.size_setCell, size_fill, bytesW]; omega)) only [go_sem, c107, c107S0, c107S1, c107L0, c107S2]
  have s1 := (St.start (W0 := w)).nilRow 3 1
  refine W_loopU (fun x : Nat × Value => [(5, x.2), (6, .int .i64 x.1)]) (fun x w' => St w w' (fun _ => False) [.row x.2 3 1 ((s.take x.1).filter (fun x => !decide (x = n))).length (((s.take x.1).filter (fun x => !decide (x = n))).flatMap intE)] [] ∧ x.1 ≤ s.length) (fun x => s.length - x.1) (0, .slice none 0 0) rfl ⟨s1, Nat.zero_le _⟩ ?_
  rintro ⟨k, u⟩ w2 ⟨s2, hk⟩
  simp only at s2 hk
  have hfl := List.length_filter_le (fun x => !decide (x = n)) (s.take k)
  rw [List.length_take] at hfl
  obtain ⟨au, cu, rfl, _⟩ := own_slice (s2.row 0 rfl)
  by_cases hlt : k < s.length
  · have hlt' : (k : Int) < s.length := by omega
    obtain ⟨p, rfl⟩ := h.ptr (by omega)
    have ek := RdS.int (h.below s2.bel (by decide)) hlt
    simp (disch := first | omega | exact okFill_t rfl | exact okSize_t rfl | exact fun h => h | (simp only [World.size_alloc, World.size_drew, World.size_setCell, size_fill, bytesW]; omega)) only [go_sem, c107, c107S0, c107S1, c107L0, c107S2, hlt', ek]
    refine ⟨by omega, fun hne => ?_, fun heq => ⟨⟨by omega, by omega⟩, (k + 1, .slice au ((s.take k).filter (fun x => !decide (x = n))).length cu), rfl, ⟨?_, by simp only; omega⟩, by simp only; omega⟩⟩
    · refine ⟨by omega, ?_⟩
      refine bsW_ones ty36mkI rfl rfl (by decide) (by decide) (intE_one _) ?_
      simp (disch := first | omega | exact okFill_t rfl | exact okSize_t rfl | exact fun h => h | (simp only [World.size_alloc, World.size_drew, World.size_setCell, size_fill, bytesW]; omega)) only [go_sem, c107, c107S0, c107S1, c107L0, c107S2]
      have hx : Rd (w2.alloc (.cells #[.int .i64 s[k]] 3)) 1 (.slice (some ⟨w2.heap.size, 0, none⟩) 1 1) 1 (intE s[k]) := rd_new (n := 1) (cs := #[.int .i64 s[k]]) rfl
      refine (s2.alloc' (.cells #[.int .i64 s[k]] 3)).append 0 rfl ty36mkI rfl (by decide) hx (intE_one s[k]) (by omega) (by omega) ?_
      intro v6 w6 s6 c6
      simp only [List.set_cons_zero] at s6
      simp (disch := first | omega | exact okFill_t rfl | exact okSize_t rfl | exact fun h => h | (simp only [World.size_alloc, World.size_drew, World.size_setCell, size_fill, bytesW]; omega)) only [go_sem, c107, c107S0, c107S1, c107L0, c107S2]
      have e : (s.take (k + 1)).filter (fun x => !decide (x = n)) = (s.take k).filter (fun x => !decide (x = n)) ++ [s[k]] := by
        rw [List.take_succ_eq_append_getElem hlt, List.filter_append]; simp [hne]
      refine ⟨⟨by omega, by omega⟩, (k + 1, v6), rfl, ⟨?_, by simp only; omega⟩, by simp only; omega⟩
      simp only
      rw [e, List.length_append, List.flatMap_append]
      simpa using s6
    · have e : (s.take (k + 1)).filter (fun x => !decide (x = n)) = (s.take k).filter (fun x => !decide (x = n)) := by
        rw [List.take_succ_eq_append_getElem hlt, List.filter_append]; simp [heq]
      simp only
      rw [e]; exact s2
  · have hlt' : ¬ (k : Int) < s.length := by omega
    simp (disch := first | omega | exact okFill_t rfl | exact okSize_t rfl | exact fun h => h | (simp only [World.size_alloc, World.size_drew, World.size_setCell, size_fill, bytesW]; omega)) only [go_sem, c107, c107S0, c107S1, c107L0, c107S2, hlt']
    have e := s2.row 0 rfl
    rw [List.take_of_length_le (by omega)] at e ⊢
    exact ⟨e, s2.bel⟩
end Go.Proofs.Ytbeoedgoikcbpaa

namespace Go.Proofs.Ytbeoedgoikcbpaa
set_option linter.unusedSimpArgs false
set_option linter.unusedVariables false
set_option maxRecDepth 100000
open Go Go.Ann Go.RowKit Go.Shelf
theorem setCells_blk {g : Nat} {e : TypeId} : ∀ (vs mid pre post : List Value) (o : Nat) (w : World), Blk w g (pre ++ (mid ++ post)).toArray e → mid.length = vs.length → pre.length = o →
    Blk (w.setCells g o vs) g (pre ++ (vs ++ post)).toArray e ∧ Chg (fun k => k = g) w (w.setCells g o vs)
  | [], [], pre, post, o, w, h, _, _ => ⟨h, Chg.refl _ _⟩
  | [], _ :: _, pre, post, o, w, h, hl, _ => by simp at hl
  | _ :: _, [], pre, post, o, w, h, hl, _ => by simp at hl
  | v :: vs, m :: mid, pre, post, o, w, h, hl, ho => by
    have h1 : Blk (w.setCell ⟨g, o, none⟩ v) g ((pre ++ [v]) ++ (mid ++ post)).toArray e := by
      have := h.set o v
      rw [List.setIfInBounds_toArray, List.set_append_right _ _ (by omega), ho, Nat.sub_self] at this
      simpa using this
    obtain ⟨h2, h3⟩ := setCells_blk vs mid (pre ++ [v]) post (o + 1) _ h1 (by simpa using hl) (by simp [ho])
    refine ⟨by simpa [World.setCells] using h2, ?_⟩
    simp only [World.setCells]
    exact Chg.trans ((Chg.refl (fun k => k = g) w).setCell ⟨g, o, none⟩ v (fun _ => rfl)) h3
theorem intE_map (s : List Int) : s.flatMap intE = s.map (Value.int .i64) := by
  induction s with
  | nil => rfl
  | cons x s ih => rw [List.flatMap_cons, ih]; rfl
theorem rd_of_blk {w : World} {g cap : Nat} {s : List Int} {rest : List Value} {t : TypeId} (hB : Blk w g (s.map (Value.int .i64) ++ rest).toArray t) (hc : s.length ≤ cap) {n : Nat} (hn : n = s.length) : RdS w 1 intE (.slice (some ⟨g, 0, none⟩) n cap) s := by
  subst hn
  refine ⟨by rw [intE_map]; simp, _, cap, rfl, hc, fun _ => ⟨_, rfl, fun j u hu => ?_⟩⟩
  rw [intE_map] at hu
  rw [Addr.add_lit, Nat.zero_add, hB.cell, List.getElem?_toArray, List.getElem?_append_left (by have := (List.getElem?_eq_some_iff.1 hu).1; exact this)]
  exact hu
theorem arr_app (l : List Value) (A : Array Value) : l.toArray ++ A = (l ++ A.toList).toArray := by apply Array.ext'; simp
theorem blk_new {w : World} {cs : Array Value} {t : TypeId} {l : List Value} {b : Nat} (hb : b = w.heap.size) (e : cs.toList = l) : Blk (w.alloc (.cells cs t)) b l.toArray t := by subst hb e; exact Blk.new
theorem zeroC_len (n : Nat) : (Builtin.zeroCells (Value.int .i64 0).cells n).toList.length = n := by
  simp [Builtin.zeroCells, Value.cells]
theorem ins_ok (v : Value) (s : List Int) (i : Nat) (x : Int) (b : Nat) (w : World) (B : Nat) (hB : B ≤ w.heap.size) (h : w.ownsRow B 3 1 v s.length (s.flatMap intE)) (hx : Blk w b #[.int .i64 x] 3) (hne : v.ownBlock ≠ some b) (hi : i ≤ s.length) (hl : s.length ≤ 1000000) :
    Ret Try.prog 123 [v, .int .i64 i, .slice (some ⟨b, 0, none⟩) 1 1] w fun u w' => RdS w' 1 intE u (s.take i ++ x :: s.drop i) ∧ (∀ k, slFoot u k → v.ownBlock = some k ∨ w.heap.size ≤ k) ∧ Chg (fun k => v.ownBlock = some k) w w' := by
  have h1v : ∀ u ∈ [Value.int .i64 x], u.oneCell' = true := by intro u hu; rw [List.mem_singleton] at hu; subst hu; rfl
  have hvs : ∀ j u, [Value.int .i64 x][j]? = some u → w.cell? ⟨b, 0 + j, none⟩ = some u := fun j u hj => by rw [Nat.zero_add, hx.cell]; simpa using hj
  have hcl : (s.map (Value.int .i64)).length = s.length := by simp
  have h1c : ∀ u ∈ s.map (Value.int .i64), u.oneCell' = true := fun u hu => by obtain ⟨y, _, rfl⟩ := List.mem_map.1 hu; rfl
  have hlen : (s.take i ++ x :: s.drop i).length = s.length + 1 := by simp; omega
  rw [intE_map] at h
  rcases h.2 with ⟨rfl, h0⟩ | ⟨g, c, cur, rfl, hg, hb, hnc, hcm, hcs, htk⟩
  · have hs : s = [] := List.eq_nil_of_length_eq_zero h0
    subst hs
    obtain rfl : i = 0 := by simpa using hi
    have := Any2.slices_Insert_int_end_grow layIns none 0 0 b 0 1 1 [] [.int .i64 x] w (by omega) (by omega) (by omega) (by omega) rfl rfl (fun _ => rfl) (fun a ha => by cases ha) hvs h1v
    refine this.mono ?_
    rintro e w' ⟨rfl, rfl⟩
    refine ⟨_, rfl, rd_of_blk (s := [x]) (rest := (Builtin.zeroCells (Value.int .i64 0).cells (grownCap w (0 + 1) 0 3 - (0 + 1))).toList) (t := 3) ?_ (by simpa using grownCap_ge w (0 + 1) 0 _) rfl, fun k hk => .inr ?_, Chg.of_below ((Below.refl _ w).drew.alloc (Nat.le_refl _) _)⟩
    · exact blk_new rfl (by rw [arr_app]; rfl)
    · have := slFoot_own hk
      simp only [Value.ownBlock, Option.some.injEq] at this
      omega
  · have hlt : g < w.heap.size := Blk.lt hb
    have hgb : b ≠ g := fun e => hne (by rw [e]; rfl)
    simp only [Nat.mul_one] at hcs htk
    have hcur : cur = (s.map (Value.int .i64) ++ cur.toList.drop s.length).toArray := by
      apply Array.ext'
      rw [List.toList_toArray, ← htk, List.take_append_drop]
    obtain ⟨tl, htl⟩ : ∃ tl, tl = cur.toList.drop s.length := ⟨_, rfl⟩
    rw [← htl] at hcur
    have htll : tl.length = c - s.length := by rw [htl, List.length_drop, Array.length_toList, hcs]
    have hbb : Blk w g (s.map (Value.int .i64) ++ tl).toArray 3 := by rw [← hcur]; exact hb
    have hmax : c ≤ 9223372036854775807 := hcm
    have hcells : ∀ j u, (s.map (Value.int .i64))[j]? = some u → w.cell? ⟨g, 0 + j, none⟩ = some u := fun j u hj => by
      rw [Nat.zero_add, hbb.cell, List.getElem?_toArray, List.getElem?_append_left (List.getElem?_eq_some_iff.1 hj).1]; exact hj
    have hsome : ∀ j, j < c → (w.cell? ⟨g, 0 + j, none⟩).isSome = true := fun j hj => by
      rw [Nat.zero_add, hbb.cell, List.getElem?_toArray, List.getElem?_eq_getElem (by simp; omega)]; rfl
    have hfz : ∀ j, w.frozen? ⟨g, j, none⟩ = false := hbb.frozen
    have own : ∀ {k n c'}, slFoot (.slice (some ⟨g, 0, none⟩) n c') k → (Value.slice (some ⟨g, 0, none⟩) s.length c).ownBlock = some k ∨ w.heap.size ≤ k := fun hk => .inl (by have := slFoot_own hk; simpa [Value.ownBlock] using this)
    have new : ∀ {k n c'}, slFoot (.slice (some ⟨w.heap.size, 0, none⟩) n c') k → (Value.slice (some ⟨g, 0, none⟩) s.length c).ownBlock = some k ∨ w.heap.size ≤ k := fun hk => .inr (by have := slFoot_own hk; simp only [Value.ownBlock, Option.some.injEq] at this; omega)
    have chgo : ∀ {w' : World}, Chg (fun k => k = g) w w' → Chg (fun k => (Value.slice (some ⟨g, 0, none⟩) s.length c).ownBlock = some k) w w' := fun hc => ⟨hc.os, hc.tape, hc.output, hc.size, fun k hk hS => hc.block k hk fun e => hS (by rw [e]; rfl)⟩
    rcases Nat.lt_or_ge i s.length with hin | hin
    · have e1 : s.map (Value.int .i64) = (s.take i).map (Value.int .i64) ++ (s.drop i).map (Value.int .i64) := by rw [← List.map_append, List.take_append_drop]
      rcases Nat.lt_or_ge c (s.length + 1) with hroom | hroom
      · have := Any2.slices_Insert_int_grow layIns g 0 s.length c i b 0 1 1 (s.map (Value.int .i64)) [.int .i64 x] w hin (by omega) hnc hroom (by omega) hcl rfl hcells hvs h1c h1v
        refine this.mono ?_
        rintro e w' ⟨rfl, rfl⟩
        obtain ⟨G, hG⟩ : ∃ G, G = grownCap w (s.length + 1) c 3 := ⟨_, rfl⟩
        have hGe : s.length + 1 ≤ G := by rw [hG]; exact grownCap_ge w (s.length + 1) c _
        obtain ⟨Z1, hZ1⟩ : ∃ Z, Z = (Builtin.zeroCells (Value.int .i64 0).cells (s.length + 1 - i)).toList := ⟨_, rfl⟩
        obtain ⟨Z2, hZ2⟩ : ∃ Z, Z = (Builtin.zeroCells (Value.int .i64 0).cells (G - (s.length + 1))).toList := ⟨_, rfl⟩
        have lz1 : Z1.length = s.length + 1 - i := by rw [hZ1]; exact zeroC_len _
        obtain ⟨z, Z1', rfl⟩ : ∃ z Z, Z1 = z :: Z := by
          cases Z1 with
          | nil => simp at lz1; omega
          | cons z Z => exact ⟨z, Z, rfl⟩
        have b0 : Blk (w.alloc (.cells (((s.map (Value.int .i64)).take i).toArray ++ Builtin.zeroCells (Value.int .i64 0).cells (s.length + 1 - i) ++ Builtin.zeroCells (Value.int .i64 0).cells (G - (s.length + 1))) 3)) w.heap.size ((s.take i).map (Value.int .i64) ++ ([z] ++ (Z1' ++ Z2))).toArray 3 := by
          refine blk_new rfl ?_
          rw [arr_app, arr_app, ← hZ1, ← hZ2, ← List.map_take]
          simp
        have hlen1 : ((s.take i).map (Value.int .i64)).length = i := by simp; omega
        obtain ⟨b1, c1⟩ := setCells_blk [Value.int .i64 x] [z] ((s.take i).map (Value.int .i64)) (Z1' ++ Z2) i _ b0.drew rfl hlen1
        have b1' := b1
        rw [← List.append_assoc] at b1'
        obtain ⟨b2, c2⟩ := setCells_blk ((s.drop i).map (Value.int .i64)) Z1' ((s.take i).map (Value.int .i64) ++ [Value.int .i64 x]) Z2 (i + 1) _ b1'.drew (by simp at lz1 ⊢; omega) (by simp; omega)
        rw [← List.map_drop, show layIns_ren.t 3 = 3 from rfl]
        refine ⟨_, rfl, rd_of_blk (s := s.take i ++ x :: s.drop i) (rest := Z2) (t := 3) (by rw [← hG]; simpa using b2) (by rw [hlen]; exact grownCap_ge w (s.length + 1) c _) hlen.symm, fun k hk => new hk, ?_⟩
        rw [← hG]
        have hdr : ∀ {S : Nat → Prop} {a : World}, Chg S a a.drew := fun {S a} => (Chg.refl S a).drew
        have cc : Chg (fun k => k = w.heap.size) (w.alloc (.cells (((s.map (Value.int .i64)).take i).toArray ++ Builtin.zeroCells (Value.int .i64 0).cells (s.length + 1 - i) ++ Builtin.zeroCells (Value.int .i64 0).cells (G - (s.length + 1))) 3)) _ := hdr.trans (c1.trans (hdr.trans c2))
        exact Chg.of_below (((Below.refl _ w).alloc (Nat.le_refl _) _).trans (cc.below (by simp) fun k hk e => by omega))
      · have hmid : ∃ t0 tl', tl = t0 :: tl' := by
          cases tl with
          | nil => simp at htll; omega
          | cons t0 tl' => exact ⟨t0, tl', rfl⟩
        obtain ⟨t0, tl', rfl⟩ := hmid
        have hshA : w.shape? b = some (3, 1) := by unfold World.shape?; rw [hx]; rfl
        have hshB : w.shape? g = some (3, cur.size) := by unfold World.shape?; rw [hb]
        have := Any2.slices_Insert_int_shift layIns g 0 s.length c i b 0 1 1 (s.map (Value.int .i64)) [.int .i64 x] w hin (by omega) hroom hmax hgb hcl rfl hcells (fun j hj => hsome j (by omega)) (fun j _ => hfz _) hvs h1c h1v _ _ _ _ hshA hshB (by omega) (hx.frozen 0) (hx.frozen 1)
        refine this.mono ?_
        rintro e w' ⟨rfl, rfl⟩
        have hdi : (s.drop i).map (Value.int .i64) = Value.int .i64 s[i] :: (s.drop (i + 1)).map (Value.int .i64) := by rw [List.drop_eq_getElem_cons hin]; rfl
        have b0 : Blk w g (((s.take i).map (Value.int .i64) ++ [Value.int .i64 s[i]]) ++ (((s.drop (i + 1)).map (Value.int .i64) ++ [t0]) ++ tl')).toArray 3 := by
          have := hbb
          rw [e1, hdi] at this
          simpa using this
        obtain ⟨b1, c1⟩ := setCells_blk ((s.drop i).map (Value.int .i64)) _ _ _ (i + 1) _ b0.drew (by simp; omega) (by simp; omega)
        have b1' : Blk (w.drew.setCells g (i + 1) ((s.drop i).map (Value.int .i64))) g ((s.take i).map (Value.int .i64) ++ ([Value.int .i64 s[i]] ++ ((s.drop i).map (Value.int .i64) ++ tl'))).toArray 3 := by simpa using b1
        obtain ⟨b2, c2⟩ := setCells_blk [Value.int .i64 x] _ _ _ i _ b1' rfl (by simp; omega)
        rw [← List.map_drop, Nat.zero_add, Nat.zero_add]
        refine ⟨_, rfl, rd_of_blk (s := s.take i ++ x :: s.drop i) (rest := tl') (t := 3) (by simpa using b2) (by rw [hlen]; exact hroom) hlen.symm, fun k hk => own hk, chgo ((Chg.refl _ w).drew.trans (c1.trans c2))⟩
    · obtain rfl : i = s.length := by omega
      have e2 : s.take s.length ++ x :: s.drop s.length = s ++ [x] := by rw [List.take_length, List.drop_length]
      rw [e2] at hlen ⊢
      rcases Nat.lt_or_ge c (s.length + 1) with hroom | hroom
      · have := Any2.slices_Insert_int_end_grow layIns (some ⟨g, 0, none⟩) s.length c b 0 1 1 (s.map (Value.int .i64)) [.int .i64 x] w (by omega) hnc hroom (by omega) hcl rfl (fun h => by cases h) (fun a ha j u hj => by cases ha; rw [Addr.add_lit]; exact hcells j u hj) hvs h1v
        refine this.mono ?_
        rintro e w' ⟨rfl, rfl⟩
        refine ⟨_, rfl, rd_of_blk (s := s ++ [x]) (rest := (Builtin.zeroCells (Value.int .i64 0).cells (grownCap w (s.length + 1) c 3 - (s.length + 1))).toList) (t := 3) ?_ (by rw [hlen]; exact grownCap_ge w (s.length + 1) c _) hlen.symm, fun k hk => new hk, Chg.of_below ((Below.refl _ w).drew.alloc (Nat.le_refl _) _)⟩
        refine blk_new rfl ?_
        rw [arr_app, List.map_append]; rfl
      · have hmid : ∃ t0 tl', tl = t0 :: tl' := by
          cases tl with
          | nil => simp at htll; omega
          | cons t0 tl' => exact ⟨t0, tl', rfl⟩
        obtain ⟨t0, tl', rfl⟩ := hmid
        have := Any2.slices_Insert_int_end_room layIns g 0 s.length c b 0 1 1 [.int .i64 x] w (by omega) hroom hmax rfl (fun j hj => by have := hsome (s.length + j) (by omega); rwa [← Nat.add_assoc] at this) (fun j _ => hfz _) hvs h1v
        refine this.mono ?_
        rintro e w' ⟨rfl, rfl⟩
        obtain ⟨b1, c1⟩ := setCells_blk [Value.int .i64 x] [t0] (s.map (Value.int .i64)) tl' s.length w hbb rfl (by simp)
        rw [Nat.zero_add]
        refine ⟨_, rfl, rd_of_blk (s := s ++ [x]) (rest := tl') (t := 3) (by rw [List.map_append]; simpa using b1) (by rw [hlen]; exact hroom) hlen.symm, fun k hk => own hk, chgo c1⟩
end Go.Proofs.Ytbeoedgoikcbpaa

namespace Go.Proofs.Ytbeoedgoikcbpaa
set_option linter.unusedSimpArgs false
set_option linter.unusedVariables false
set_option maxRecDepth 100000
open Go Go.Ann Go.RowKit Go.Shelf
def insP (s : List Int) (x : Int) : List Int := s.take (s.countP (· < x)) ++ x :: s.drop (s.countP (· < x))
def delP (s : List Int) (x : Int) : List Int := s.filter (fun y => !decide (y = x))
def setP (s : List Int) (o : OpT) : Option (List Int × Int) :=
  if o.Method = 12 then some (s, if o.Arg ∈ s then 1 else 0)
  else if o.Method = 10 then (if o.Arg ∈ s then some (s, 0) else some (insP s o.Arg, 1))
  else if o.Method = 11 then (if o.Arg ∈ s then some (delP s o.Arg, 1) else some (s, 0))
  else none
theorem count_zero {x y : Int} {r : List Int} (h : ∀ a ∈ r, y < a) (hx : x ≤ y) : r.countP (· < x) = 0 := by
  rw [List.countP_eq_zero]
  intro a ha
  have := h a ha
  simp; omega
theorem insP_cons_lt {y x : Int} {r : List Int} (h : y < x) : insP (y :: r) x = y :: insP r x := by
  unfold insP
  rw [List.countP_cons_of_pos (by simpa using h)]
  rfl
theorem insP_cons_ge {y x : Int} {r : List Int} (hs : ∀ a ∈ r, y < a) (h : x ≤ y) : insP (y :: r) x = x :: y :: r := by
  unfold insP
  rw [List.countP_cons_of_neg (by simp; omega), count_zero hs h]
  rfl
theorem insP_mem {x a : Int} {s : List Int} : a ∈ insP s x ↔ a = x ∨ a ∈ s := by
  unfold insP
  rw [List.mem_append, List.mem_cons]
  have : a ∈ s ↔ a ∈ s.take (s.countP (· < x)) ∨ a ∈ s.drop (s.countP (· < x)) := by rw [← List.mem_append, List.take_append_drop]
  rw [this]
  constructor
  · rintro (h | h | h)
    · exact .inr (.inl h)
    · exact .inl h
    · exact .inr (.inr h)
  · rintro (h | h | h)
    · exact .inr (.inl h)
    · exact .inl h
    · exact .inr (.inr h)
theorem insP_sorted {x : Int} : ∀ {s : List Int}, s.Pairwise (· < ·) → x ∉ s → (insP s x).Pairwise (· < ·)
  | [], _, _ => by simp [insP]
  | y :: r, hs, hx => by
    obtain ⟨h1, h2⟩ := List.pairwise_cons.1 hs
    have hne : x ≠ y := fun e => hx (by rw [e]; exact List.mem_cons_self ..)
    rcases Int.lt_or_le y x with h | h
    · rw [insP_cons_lt h]
      refine List.pairwise_cons.2 ⟨fun a ha => ?_, insP_sorted h2 fun hm => hx (List.mem_cons_of_mem _ hm)⟩
      rcases insP_mem.1 ha with e | ha
      · omega
      · exact h1 a ha
    · rw [insP_cons_ge h1 h]
      refine List.pairwise_cons.2 ⟨fun a ha => ?_, hs⟩
      rcases List.mem_cons.1 ha with e | ha
      · omega
      · have := h1 a ha; omega
theorem delP_sorted {x : Int} {s : List Int} (hs : s.Pairwise (· < ·)) : (delP s x).Pairwise (· < ·) := hs.filter _
theorem delP_cut {x : Int} : ∀ {s : List Int}, s.Pairwise (· < ·) → x ∈ s → s.countP (· < x) < s.length ∧ s.take (s.countP (· < x)) ++ s.drop (s.countP (· < x) + 1) = delP s x
  | y :: r, hs, hx => by
    obtain ⟨h1, h2⟩ := List.pairwise_cons.1 hs
    rcases Int.lt_or_le y x with h | h
    · have hr : x ∈ r := by
        rcases List.mem_cons.1 hx with e | e
        · omega
        · exact e
      obtain ⟨i1, i2⟩ := delP_cut h2 hr
      rw [List.countP_cons_of_pos (by simpa using h)]
      refine ⟨by simp; omega, ?_⟩
      rw [List.take_succ_cons, List.drop_succ_cons, List.cons_append, i2]
      unfold delP
      rw [List.filter_cons_of_pos (by simp; omega)]
    · have e : x = y := by
        rcases List.mem_cons.1 hx with e | e
        · exact e
        · have := h1 x e; omega
      subst e
      rw [List.countP_cons_of_neg (by simp), count_zero h1 (Int.le_refl _)]
      refine ⟨by simp, ?_⟩
      unfold delP
      rw [List.filter_cons_of_neg (by simp), List.take_zero, List.nil_append, List.drop_succ_cons, List.drop_zero]
      exact (List.filter_eq_self.2 fun a ha => by have := h1 a ha; simp; omega).symm
theorem flag_ok (b : Bool) (w : World) : Ret Try.prog 122 [.bool b] w fun u w' => u = .int .i64 (if b = true then 1 else 0) ∧ w' = w := by
  refine ent122 _ _ _ ?_
  cases b
  · simp (disch := first | omega | exact okFill_t rfl | exact okSize_t rfl | exact fun h => h | (simp only [World.size_alloc, World.size_drew, World.size_setCell, size_fill, bytesW]; omega)) only [go_sem, c122, c122S0]
  · simp (disch := first | omega | exact okFill_t rfl | exact okSize_t rfl | exact fun h => h | (simp only [World.size_alloc, World.size_drew, World.size_setCell, size_fill, bytesW]; omega)) only [go_sem, c122, c122S0]
theorem own_blk {w : World} {B n : Nat} {v : Value} {s : List Int} (h : w.ownsRow B 3 1 v n (s.flatMap intE)) (h0 : 0 < n) : ∃ g cap rest, v = .slice (some ⟨g, 0, none⟩) n cap ∧ n ≤ cap ∧ cap ≤ 9223372036854775807 ∧ B ≤ g ∧ Blk w g (s.map (Value.int .i64) ++ rest).toArray 3 := by
  rcases h.2 with ⟨rfl, h1⟩ | ⟨g, c, cur, rfl, hg, hb, hnc, hcm, hcs, htk⟩
  · omega
  · rw [intE_map, Nat.mul_one] at htk
    refine ⟨g, c, cur.toList.drop n, rfl, hnc, hcm, hg, ?_⟩
    rw [← htk, List.take_append_drop]; exact hb
theorem set_ok (v : Value) (s : List Int) (o : OpT) (w : World) (B : Nat) (hB : B ≤ w.heap.size) (h : w.ownsRow B 3 1 v s.length (s.flatMap intE)) (hl : s.length ≤ 1000000) (hs : s.Pairwise (· < ·)) :
    Ret Try.prog 94 [v, .agg o.enc.toArray] w fun u w' => StepR w w' v (setP s o) u ∧ Chg (fun k => v.ownBlock = some k) w w' := by
  obtain ⟨a, c, rfl, _⟩ := own_slice h
  refine ent94 _ _ _ _ ?_
  have ho := o.at
  have hw1 : Below w.heap.size w (w.alloc (.cells o.enc.toArray 58)) := (Below.refl _ w).alloc (Nat.le_refl _) _
  have hr : RdS w 1 intE (.slice a s.length c) s := RdS.of_own' h s rfl rfl
  have hsp : ∀ a' n c', Value.slice a s.length c = .slice (some a') n c' → n ≠ 0 → a'.spot = none := fun a' n c' e hn => by
    cases e
    obtain ⟨g, cap, rest, e, _⟩ := own_blk h (by omega)
    cases e; rfl
  simp (disch := first | omega | exact okFill_t rfl | exact okSize_t rfl | exact fun h => h | (simp only [World.size_alloc, World.size_drew, World.size_setCell, size_fill, bytesW]; omega)) only [go_sem, c94, c94S0, c94S1, c94S2, c94S3, c94S4, ho]
  refine ⟨by kernel_rfl, Ret.mono (bsearch_ok _ s o.Arg _ (hr.below hw1 (by decide)) hsp hl (hs.imp fun h => Int.le_of_lt h)) ?_⟩
  rintro _ w2 ⟨rfl, b2⟩
  have bb := Below.next hw1 b2
  have cb : ∀ {S : Nat → Prop}, Chg S w w2 := Chg.of_below bb
  have hB2 : Blk w2 w.heap.size o.enc.toArray 58 := Blk.new.below b2 Blk.new.lt
  have r2 := hB2.rules
  have same : ∀ {n : Int} {b : Bool}, setP s o = some (s, n) → StepR w w2 (.slice a s.length c) (setP s o) (.tuple #[.slice a s.length c, .int .i64 n, .bool true]) := fun e => ⟨_, _, _, rfl, by
    rw [e]; exact ⟨rfl, rfl, hr.below bb (by decide), fun k hk => .inl (slFoot_own hk)⟩⟩
  have hcle := List.countP_le_length (p := fun y : Int => decide (y < o.Arg)) (l := s)
  have own2 := (cb (S := fun _ => False)).own h fun _ _ h => h
  by_cases m12 : o.Method = 12
  · cases hin : s.contains o.Arg with
    | true =>
      have e : setP s o = some (s, 1) := by unfold setP; rw [if_pos m12, if_pos (by simpa using hin)]
      simp (disch := first | omega | exact okFill_t rfl | exact okSize_t rfl | exact fun h => h | (simp only [World.size_alloc, World.size_drew, World.size_setCell, size_fill, bytesW]; omega)) only [go_sem, c94, c94S0, c94S1, c94S2, c94S3, c94S4, c94S5, r2, ho, m12]
      refine Ret.mono (flag_ok _ _) ?_
      rintro _ _ ⟨rfl, rfl⟩
      simp (disch := first | omega | exact okFill_t rfl | exact okSize_t rfl | exact fun h => h | (simp only [World.size_alloc, World.size_drew, World.size_setCell, size_fill, bytesW]; omega)) only [go_sem, c94, c94S0, c94S1, c94S2, c94S3, c94S4, c94S5]
      exact ⟨same (b := true) e, cb⟩
    | false =>
      have e : setP s o = some (s, 0) := by unfold setP; rw [if_pos m12, if_neg (by simpa using hin)]
      simp (disch := first | omega | exact okFill_t rfl | exact okSize_t rfl | exact fun h => h | (simp only [World.size_alloc, World.size_drew, World.size_setCell, size_fill, bytesW]; omega)) only [go_sem, c94, c94S0, c94S1, c94S2, c94S3, c94S4, c94S5, r2, ho, m12]
      refine Ret.mono (flag_ok _ _) ?_
      rintro _ _ ⟨rfl, rfl⟩
      simp (disch := first | omega | exact okFill_t rfl | exact okSize_t rfl | exact fun h => h | (simp only [World.size_alloc, World.size_drew, World.size_setCell, size_fill, bytesW]; omega)) only [go_sem, c94, c94S0, c94S1, c94S2, c94S3, c94S4, c94S5]
      exact ⟨same (b := true) e, cb⟩
  by_cases m10 : o.Method = 10
  · cases hin : s.contains o.Arg with
    | true =>
      have e : setP s o = some (s, 0) := by unfold setP; rw [if_neg m12, if_pos m10, if_pos (by simpa using hin)]
      simp (disch := first | omega | exact okFill_t rfl | exact okSize_t rfl | exact fun h => h | (simp only [World.size_alloc, World.size_drew, World.size_setCell, size_fill, bytesW]; omega)) only [go_sem, c94, c94S0, c94S1, c94S2, c94S3, c94S4, c94S5, r2, ho, m10]
      refine Ret.mono (flag_ok _ _) ?_
      rintro _ _ ⟨rfl, rfl⟩
      simp (disch := first | omega | exact okFill_t rfl | exact okSize_t rfl | exact fun h => h | (simp only [World.size_alloc, World.size_drew, World.size_setCell, size_fill, bytesW]; omega)) only [go_sem, c94, c94S0, c94S1, c94S2, c94S3, c94S4, c94S5]
      exact ⟨same (b := true) e, cb⟩
    | false =>
      have e : setP s o = some (insP s o.Arg, 1) := by unfold setP; rw [if_neg m12, if_pos m10, if_neg (by simpa using hin)]
      simp (disch := first | omega | exact okFill_t rfl | exact okSize_t rfl | exact fun h => h | (simp only [World.size_alloc, World.size_drew, World.size_setCell, size_fill, bytesW]; omega)) only [go_sem, c94, c94S0, c94S1, c94S2, c94S3, c94S4, c94S5, r2, ho, m10]
      refine bsW_ones ty36mkI rfl rfl (by decide) (by decide) (intE_one _) ?_
      simp (disch := first | omega | exact okFill_t rfl | exact okSize_t rfl | exact fun h => h | (simp only [World.size_alloc, World.size_drew, World.size_setCell, size_fill, bytesW]; omega)) only [go_sem, c94, c94S0, c94S1, c94S2, c94S3, c94S4, c94S5]
      have b3 := (Below.refl w2.heap.size w2).alloc (Nat.le_refl _) (.cells #[.int .i64 o.Arg] 3)
      have own3 := (Chg.of_below (S := fun _ => False) b3).own own2 fun _ _ h => h
      have hsz := b2.size
      have hsz1 := bb.size
      refine ⟨by kernel_rfl, Ret.mono (ins_ok _ s (s.countP (· < o.Arg)) o.Arg w2.heap.size _ B (by simp; omega) own3 Blk.new (fun e => ?_) hcle hl) ?_⟩
      · have := World.ownsRow.lt h _ e
        omega
      rintro u w4 ⟨h4, f4, c4⟩
      simp (disch := first | omega | exact okFill_t rfl | exact okSize_t rfl | exact fun h => h | (simp only [World.size_alloc, World.size_drew, World.size_setCell, size_fill, bytesW]; omega)) only [go_sem, c94, c94S0, c94S1, c94S2, c94S3, c94S4, c94S5]
      refine ⟨⟨_, _, _, rfl, ?_⟩, (cb.trans (Chg.of_below b3)).trans c4⟩
      rw [e]
      refine ⟨rfl, rfl, h4, fun k hk => (f4 k hk).imp id fun h => ?_⟩
      simp only [World.size_alloc] at h
      omega
  by_cases m11 : o.Method = 11
  · cases hin : s.contains o.Arg with
    | true =>
      have hmem : o.Arg ∈ s := by simpa using hin
      have e : setP s o = some (delP s o.Arg, 1) := by unfold setP; rw [if_neg m12, if_neg m10, if_pos m11, if_pos hmem]
      obtain ⟨d1, d2⟩ := delP_cut hs hmem
      simp (disch := first | omega | exact okFill_t rfl | exact okSize_t rfl | exact fun h => h | (simp only [World.size_alloc, World.size_drew, World.size_setCell, size_fill, bytesW]; omega)) only [go_sem, c94, c94S0, c94S1, c94S2, c94S3, c94S4, c94S5, r2, ho, m11]
      obtain ⟨g, cap, rest, e1, hnc, hcm, hg, hblk⟩ := own_blk own2 (by omega)
      cases e1
      refine ⟨⟨by omega, by omega⟩, by kernel_rfl, Ret.mono (delete_ok g c (s.countP (· < o.Arg)) s rest w2 hblk hnc hcm d1) ?_⟩
      rintro _ w4 ⟨rfl, ⟨rest', h4⟩, c4⟩
      simp (disch := first | omega | exact okFill_t rfl | exact okSize_t rfl | exact fun h => h | (simp only [World.size_alloc, World.size_drew, World.size_setCell, size_fill, bytesW]; omega)) only [go_sem, c94, c94S0, c94S1, c94S2, c94S3, c94S4, c94S5]
      rw [d2] at h4
      have hlen : s.length - 1 = (delP s o.Arg).length := by rw [← d2]; simp; omega
      refine ⟨⟨_, _, _, rfl, ?_⟩, cb.trans ⟨c4.os, c4.tape, c4.output, c4.size, fun k hk hS => c4.block k hk fun e => hS (by rw [e]; rfl)⟩⟩
      rw [e]
      exact ⟨rfl, rfl, rd_of_blk h4 (by omega) hlen, fun k hk => .inl (by have := slFoot_own hk; exact this)⟩
    | false =>
      have e : setP s o = some (s, 0) := by unfold setP; rw [if_neg m12, if_neg m10, if_pos m11, if_neg (by simpa using hin)]
      simp (disch := first | omega | exact okFill_t rfl | exact okSize_t rfl | exact fun h => h | (simp only [World.size_alloc, World.size_drew, World.size_setCell, size_fill, bytesW]; omega)) only [go_sem, c94, c94S0, c94S1, c94S2, c94S3, c94S4, c94S5, r2, ho, m11]
      refine Ret.mono (flag_ok _ _) ?_
      rintro _ _ ⟨rfl, rfl⟩
      simp (disch := first | omega | exact okFill_t rfl | exact okSize_t rfl | exact fun h => h | (simp only [World.size_alloc, World.size_drew, World.size_setCell, size_fill, bytesW]; omega)) only [go_sem, c94, c94S0, c94S1, c94S2, c94S3, c94S4, c94S5]
      exact ⟨same (b := true) e, cb⟩
  · have e : setP s o = none := by unfold setP; rw [if_neg m12, if_neg m10, if_neg m11]
    cases hin : s.contains o.Arg
    all_goals
      simp (disch := first | omega | exact okFill_t rfl | exact okSize_t rfl | exact fun h => h | (simp only [World.size_alloc, World.size_drew, World.size_setCell, size_fill, bytesW]; omega)) only [go_sem, c94, c94S0, c94S1, c94S2, c94S3, c94S4, c94S5, r2, ho, m10, m11, m12]
      exact ⟨⟨_, _, _, rfl, by rw [e]⟩, cb⟩
end Go.Proofs.Ytbeoedgoikcbpaa

namespace Go.Proofs.Ytbeoedgoikcbpaa
set_option linter.unusedSimpArgs false
set_option linter.unusedVariables false
set_option maxRecDepth 100000
open Go Go.Ann Go.RowKit Go.Shelf
def numL (s : List Int) (o : OpT) : Option (List Int × Int) := match s with | [x] => numP x o | _ => none
theorem numL_not {s : List Int} {o : OpT} (h : ∀ x, s = [x] → False) : numL s o = none := by
  unfold numL
  split
  · exact absurd rfl (h _)
  · rfl
def doP (s : List Int) (o : OpT) : Option (List Int × Int) :=
  if o.Kind = 1 ∨ o.Kind = 2 then numL s o
  else if o.Kind = 3 ∨ o.Kind = 4 then listP s o
  else if o.Kind = 5 then setP s o
  else if o.Kind = 6 then (if o.Method = 13 ∧ s = [] then some ([o.Proc], 0) else if o.Method = 14 ∧ s = [o.Proc] then some ([], 0) else none)
  else none
def stepP (s : List Int) (o : OpT) : Option (List Int) :=
  match doP s o with
  | some (t, n) => if o.Done = true ∧ n ≠ o.Result then none else some t
  | none => none
def StepF (w w' : World) (r : Option (List Int × Int)) (t : Value) : Prop :=
  ∃ u a ok, t = .tuple #[u, .int .i64 a, .bool ok] ∧ match r with
    | none => ok = false
    | some (s, n) => ok = true ∧ a = n ∧ RdS w' 1 intE u s ∧ ∀ k, slFoot u k → w.heap.size ≤ k
theorem StepR.fresh {w w2 w3 : World} {v t : Value} {r : Option (List Int × Int)} (h : StepR w2 w3 v r t) (hv : ∀ k, v.ownBlock = some k → w.heap.size ≤ k) (hs : w.heap.size ≤ w2.heap.size) : StepF w w3 r t := by
  obtain ⟨u, a, ok, e, hm⟩ := h
  refine ⟨u, a, ok, e, ?_⟩
  cases r with
  | none => exact hm
  | some p =>
    obtain ⟨s, n⟩ := p
    obtain ⟨h1, h2, h3, h4⟩ := hm
    exact ⟨h1, h2, h3, fun k hk => (h4 k hk).elim (hv k) fun h => Nat.le_trans hs h⟩
theorem do_ok (v : Value) (s : List Int) (o : OpT) (w : World) (h : RdS w 1 intE v s) (hl : s.length ≤ 1000000) (hs : o.Kind = 5 → s.Pairwise (· < ·)) :
    Ret Try.prog 66 [v, .agg o.enc.toArray] w fun u w' => StepF w w' (doP s o) u ∧ Below w.heap.size w w' := by
  refine ent66 _ _ _ _ ?_
  have ho := o.at
  have hw1 : Below w.heap.size w (w.alloc (.cells o.enc.toArray 58)) := (Below.refl _ w).alloc (Nat.le_refl _) _
  simp (disch := first | omega | exact okFill_t rfl | exact okSize_t rfl | exact fun h => h | (simp only [World.size_alloc, World.size_drew, World.size_setCell, size_fill, bytesW]; omega)) only [go_sem, c66, c66S0, c66S1, c66S2, c66S3, c66S4, c66S5, c66S6, c66S7]
  refine Ret.mono (iclone_ok v s _ (h.below hw1 (by decide)) hl) ?_
  rintro u w2 ⟨own2, b2⟩
  have bb := Below.next hw1 b2
  have hB2 : Blk w2 w.heap.size o.enc.toArray 58 := Blk.new.below b2 Blk.new.lt
  have r2 := hB2.rules
  have hl11 : okSize o.enc.toArray 11 = true := rfl
  obtain ⟨a, c, rfl, hac⟩ := own_slice own2
  have rd2 : RdS w2 1 intE (.slice a s.length c) s := RdS.of_own' own2 s rfl rfl
  have lt2 : ∀ k, (Value.slice a s.length c).ownBlock = some k → w.heap.size ≤ k := fun k hk => by
    have := (World.ownsRow.lt own2 k hk).1
    simp only [World.size_alloc] at this; omega
  have hsz1 : w.heap.size + 1 ≤ w2.heap.size := by have := b2.size; simpa using this
  have chg : ∀ {w' : World}, Chg (fun k => (Value.slice a s.length c).ownBlock = some k) w2 w' → Below w.heap.size w w' := fun hc => bb.trans (hc.below bb.size fun k hk e => by have := lt2 k e; omega)
  have bad : ∀ {u : Value} {n : Int}, doP s o = none → StepF w w2 (doP s o) (.tuple #[u, .int .i64 n, .bool false]) := fun e => ⟨_, _, _, rfl, by rw [e]⟩
  have number : o.Kind = 1 ∨ o.Kind = 2 → (∀ x, s = [x] → False) ∨ ∃ x, s = [x] := fun _ => by
    cases s with
    | nil => exact .inl fun x e => by cases e
    | cons x r => cases r with
      | nil => exact .inr ⟨x, rfl⟩
      | cons y r => exact .inl fun x e => by cases e
  have hd1 : o.Kind = 1 ∨ o.Kind = 2 → doP s o = numL s o := fun e => by unfold doP; rw [if_pos e]
  by_cases k1 : o.Kind = 1
  · simp (disch := first | omega | exact okFill_t rfl | exact okSize_t rfl | exact fun h => h | (simp only [World.size_alloc, World.size_drew, World.size_setCell, size_fill, bytesW]; omega)) only [go_sem, c66, c66S0, c66S1, c66S2, c66S3, c66S4, c66S5, c66S6, c66S7, c66S8, r2, ho, k1]
    rcases number (.inl k1) with hn | ⟨x, rfl⟩
    · have hne : (s.length : Int) ≠ 1 := fun e => by
        obtain ⟨x, hx⟩ := List.length_eq_one_iff.1 (show s.length = 1 by omega)
        exact hn x hx
      refine ⟨fun _ => ⟨bad ?_, bb⟩, fun e => absurd e hne⟩
      rw [hd1 (.inl k1), numL_not hn]
    · refine ⟨fun e => absurd rfl e, fun _ => ?_⟩
      simp (disch := first | omega | exact okFill_t rfl | exact okSize_t rfl | exact fun h => h | (simp only [World.size_alloc, World.size_drew, World.size_setCell, size_fill, bytesW]; omega)) only [go_sem, c66, c66S0, c66S1, c66S2, c66S3, c66S4, c66S5, c66S6, c66S7, c66S8, r2]
      refine Ret.mono (number_ok _ x o w2 rd2) ?_
      rintro _ w3 ⟨h3, b3⟩
      have h3' := StepR.fresh h3 lt2 (by omega)
      obtain ⟨u3, a3, ok3, rfl, hm⟩ := h3
      simp (disch := first | omega | exact okFill_t rfl | exact okSize_t rfl | exact fun h => h | (simp only [World.size_alloc, World.size_drew, World.size_setCell, size_fill, bytesW]; omega)) only [go_sem, c66, c66S0, c66S1, c66S2, c66S3, c66S4, c66S5, c66S6, c66S7, c66S8]
      rw [hd1 (.inl k1)]
      exact ⟨h3', Below.next bb b3⟩
  by_cases k2 : o.Kind = 2
  · simp (disch := first | omega | exact okFill_t rfl | exact okSize_t rfl | exact fun h => h | (simp only [World.size_alloc, World.size_drew, World.size_setCell, size_fill, bytesW]; omega)) only [go_sem, c66, c66S0, c66S1, c66S2, c66S3, c66S4, c66S5, c66S6, c66S7, c66S8, r2, ho, k2]
    rcases number (.inr k2) with hn | ⟨x, rfl⟩
    · have hne : (s.length : Int) ≠ 1 := fun e => by
        obtain ⟨x, hx⟩ := List.length_eq_one_iff.1 (show s.length = 1 by omega)
        exact hn x hx
      refine ⟨fun _ => ⟨bad ?_, bb⟩, fun e => absurd e hne⟩
      rw [hd1 (.inr k2), numL_not hn]
    · refine ⟨fun e => absurd rfl e, fun _ => ?_⟩
      simp (disch := first | omega | exact okFill_t rfl | exact okSize_t rfl | exact fun h => h | (simp only [World.size_alloc, World.size_drew, World.size_setCell, size_fill, bytesW]; omega)) only [go_sem, c66, c66S0, c66S1, c66S2, c66S3, c66S4, c66S5, c66S6, c66S7, c66S8, r2]
      refine Ret.mono (number_ok _ x o w2 rd2) ?_
      rintro _ w3 ⟨h3, b3⟩
      have h3' := StepR.fresh h3 lt2 (by omega)
      obtain ⟨u3, a3, ok3, rfl, hm⟩ := h3
      simp (disch := first | omega | exact okFill_t rfl | exact okSize_t rfl | exact fun h => h | (simp only [World.size_alloc, World.size_drew, World.size_setCell, size_fill, bytesW]; omega)) only [go_sem, c66, c66S0, c66S1, c66S2, c66S3, c66S4, c66S5, c66S6, c66S7, c66S8]
      rw [hd1 (.inr k2)]
      exact ⟨h3', Below.next bb b3⟩
  have hb1 : (w.alloc (.cells o.enc.toArray 58)).heap.size ≤ w2.heap.size := b2.size
  by_cases k3 : o.Kind = 3
  · have hd : doP s o = listP s o := by unfold doP; rw [if_neg (by simp [k1, k2]), if_pos (.inl k3)]
    simp (disch := first | omega | exact okFill_t rfl | exact okSize_t rfl | exact fun h => h | (simp only [World.size_alloc, World.size_drew, World.size_setCell, size_fill, bytesW]; omega)) only [go_sem, c66, c66S0, c66S1, c66S2, c66S3, c66S4, c66S5, c66S6, c66S7, c66S8, r2, ho, k3]
    refine Ret.mono (list_ok _ s o w2 _ hb1 own2 hl) ?_
    rintro _ w3 ⟨h3, c3⟩
    have h3' := StepR.fresh h3 lt2 (by omega)
    obtain ⟨u3, a3, ok3, rfl, hm⟩ := h3
    simp (disch := first | omega | exact okFill_t rfl | exact okSize_t rfl | exact fun h => h | (simp only [World.size_alloc, World.size_drew, World.size_setCell, size_fill, bytesW]; omega)) only [go_sem, c66, c66S0, c66S1, c66S2, c66S3, c66S4, c66S5, c66S6, c66S7, c66S8]
    rw [hd]
    exact ⟨h3', chg c3⟩
  by_cases k4 : o.Kind = 4
  · have hd : doP s o = listP s o := by unfold doP; rw [if_neg (by simp [k1, k2]), if_pos (.inr k4)]
    simp (disch := first | omega | exact okFill_t rfl | exact okSize_t rfl | exact fun h => h | (simp only [World.size_alloc, World.size_drew, World.size_setCell, size_fill, bytesW]; omega)) only [go_sem, c66, c66S0, c66S1, c66S2, c66S3, c66S4, c66S5, c66S6, c66S7, c66S8, r2, ho, k4]
    refine Ret.mono (list_ok _ s o w2 _ hb1 own2 hl) ?_
    rintro _ w3 ⟨h3, c3⟩
    have h3' := StepR.fresh h3 lt2 (by omega)
    obtain ⟨u3, a3, ok3, rfl, hm⟩ := h3
    simp (disch := first | omega | exact okFill_t rfl | exact okSize_t rfl | exact fun h => h | (simp only [World.size_alloc, World.size_drew, World.size_setCell, size_fill, bytesW]; omega)) only [go_sem, c66, c66S0, c66S1, c66S2, c66S3, c66S4, c66S5, c66S6, c66S7, c66S8]
    rw [hd]
    exact ⟨h3', chg c3⟩
  by_cases k5 : o.Kind = 5
  · have hd : doP s o = setP s o := by unfold doP; rw [if_neg (by simp [k1, k2]), if_neg (by simp [k3, k4]), if_pos k5]
    simp (disch := first | omega | exact okFill_t rfl | exact okSize_t rfl | exact fun h => h | (simp only [World.size_alloc, World.size_drew, World.size_setCell, size_fill, bytesW]; omega)) only [go_sem, c66, c66S0, c66S1, c66S2, c66S3, c66S4, c66S5, c66S6, c66S7, c66S8, r2, ho, k5]
    refine Ret.mono (set_ok _ s o w2 _ hb1 own2 hl (hs k5)) ?_
    rintro _ w3 ⟨h3, c3⟩
    have h3' := StepR.fresh h3 lt2 (by omega)
    obtain ⟨u3, a3, ok3, rfl, hm⟩ := h3
    simp (disch := first | omega | exact okFill_t rfl | exact okSize_t rfl | exact fun h => h | (simp only [World.size_alloc, World.size_drew, World.size_setCell, size_fill, bytesW]; omega)) only [go_sem, c66, c66S0, c66S1, c66S2, c66S3, c66S4, c66S5, c66S6, c66S7, c66S8]
    rw [hd]
    exact ⟨h3', chg c3⟩
  by_cases k6 : o.Kind = 6
  · have hd : doP s o = (if o.Method = 13 ∧ s = [] then some ([o.Proc], 0) else if o.Method = 14 ∧ s = [o.Proc] then some ([], 0) else none) := by unfold doP; rw [if_neg (by simp [k1, k2]), if_neg (by simp [k3, k4]), if_neg k5, if_pos k6]
    have rdd := hB2.drew.rules
    have bbd : Below w.heap.size w w2.drew := bb.drew
    have rd2d : RdS w2.drew 1 intE (.slice a s.length c) s := rd2.below (Below.refl _ w2).drew (by decide)
    have fresh : ∀ {k n c'}, slFoot (.slice (some ⟨w2.heap.size, 0, none⟩) n c') k → w.heap.size ≤ k := fun hk => by
      have := slFoot_own hk
      simp only [Value.ownBlock, Option.some.injEq] at this
      omega
    have badd : ∀ {u : Value} {n : Int}, doP s o = none → StepF w w2.drew (doP s o) (.tuple #[u, .int .i64 n, .bool false]) := fun e => ⟨_, _, _, rfl, by rw [e]⟩
    by_cases m13 : o.Method = 13
    · simp (disch := first | omega | exact okFill_t rfl | exact okSize_t rfl | exact fun h => h | (simp only [World.size_alloc, World.size_drew, World.size_setCell, size_fill, bytesW]; omega)) only [go_sem, c66, c66S0, c66S1, c66S2, c66S3, c66S4, c66S5, c66S6, c66S7, c66S8, r2, ho, k6, m13]
      refine ⟨fun h0 => ?_, fun h0 => ?_⟩
      · obtain rfl : s = [] := List.eq_nil_of_length_eq_zero (by omega)
        refine bsW_ones ty36mkI rfl rfl (by decide) (by decide) (intE_one _) ?_
        simp (disch := first | omega | exact okFill_t rfl | exact okSize_t rfl | exact fun h => h | (simp only [World.size_alloc, World.size_drew, World.size_setCell, size_fill, bytesW]; omega)) only [go_sem, c66, c66S0, c66S1, c66S2, c66S3, c66S4, c66S5, c66S6, c66S7, c66S8]
        refine ⟨⟨_, _, _, rfl, ?_⟩, Below.next bb ((Below.refl _ _).alloc (Nat.le_refl _) _)⟩
        rw [hd, if_pos ⟨m13, rfl⟩]
        exact ⟨rfl, rfl, int_new o.Proc rfl, fun k hk => fresh hk⟩
      · refine c66draw0 ?_
        simp (disch := first | omega | exact okFill_t rfl | exact okSize_t rfl | exact fun h => h | (simp only [World.size_alloc, World.size_drew, World.size_setCell, size_fill, bytesW]; omega)) only [go_sem, c66, c66S0, c66S1, c66S2, c66S3, c66S4, c66S5, c66S6, c66S7, c66S8, c66D0, rdd, ho, m13]
        have : s ≠ [] := fun e => h0 (by rw [e]; rfl)
        exact ⟨badd (by rw [hd]; simp [this, m13]), bbd⟩
    · simp (disch := first | omega | exact okFill_t rfl | exact okSize_t rfl | exact fun h => h | (simp only [World.size_alloc, World.size_drew, World.size_setCell, size_fill, bytesW]; omega)) only [go_sem, c66, c66S0, c66S1, c66S2, c66S3, c66S4, c66S5, c66S6, c66S7, c66S8, r2, ho, k6, m13]
      refine c66draw0 ?_
      by_cases m14 : o.Method = 14
      · simp (disch := first | omega | exact okFill_t rfl | exact okSize_t rfl | exact fun h => h | (simp only [World.size_alloc, World.size_drew, World.size_setCell, size_fill, bytesW]; omega)) only [go_sem, c66, c66S0, c66S1, c66S2, c66S3, c66S4, c66S5, c66S6, c66S7, c66S8, c66D0, rdd, ho, m14]
        refine ⟨fun h1 => ?_, fun h1 => ?_⟩
        · obtain ⟨x, rfl⟩ := List.length_eq_one_iff.1 (show s.length = 1 by omega)
          obtain ⟨p, rfl⟩ := rd2d.ptr (by simp)
          have ep := RdS.int rd2d (k := 0) (by simp)
          rw [show p.add 0 = p from rfl, show ([x] : List Int)[0] = x from rfl] at ep
          simp (disch := first | omega | exact okFill_t rfl | exact okSize_t rfl | exact fun h => h | (simp only [World.size_alloc, World.size_drew, World.size_setCell, size_fill, bytesW]; omega)) only [go_sem, c66, c66S0, c66S1, c66S2, c66S3, c66S4, c66S5, c66S6, c66S7, c66S8, c66D0, rdd, ho, ep]
          refine ⟨fun e => ⟨⟨_, _, _, rfl, ?_⟩, bbd⟩, fun e => ⟨badd ?_, bbd⟩⟩
          · rw [hd, if_neg (by simp), if_pos ⟨m14, by rw [e]⟩]
            exact ⟨rfl, rfl, RdS.nil, fun k hk => absurd hk slFoot_none⟩
          · rw [hd, if_neg (by simp), if_neg (by simp [e])]
        · have : s ≠ [o.Proc] := fun e => h1 (by rw [e]; rfl)
          exact ⟨badd (by rw [hd]; simp [m13, this]), bbd⟩
      · simp (disch := first | omega | exact okFill_t rfl | exact okSize_t rfl | exact fun h => h | (simp only [World.size_alloc, World.size_drew, World.size_setCell, size_fill, bytesW]; omega)) only [go_sem, c66, c66S0, c66S1, c66S2, c66S3, c66S4, c66S5, c66S6, c66S7, c66S8, c66D0, rdd, ho, m14]
        exact ⟨badd (by rw [hd]; simp [m13, m14]), bbd⟩
  · have hd : doP s o = none := by unfold doP; rw [if_neg (by simp [k1, k2]), if_neg (by simp [k3, k4]), if_neg k5, if_neg k6]
    simp (disch := first | omega | exact okFill_t rfl | exact okSize_t rfl | exact fun h => h | (simp only [World.size_alloc, World.size_drew, World.size_setCell, size_fill, bytesW]; omega)) only [go_sem, c66, c66S0, c66S1, c66S2, c66S3, c66S4, c66S5, c66S6, c66S7, c66S8, r2, ho, k1, k2, k3, k4, k5, k6]
    exact ⟨bad hd, bb⟩
theorem step_ok (v : Value) (s : List Int) (o : OpT) (w : World) (h : RdS w 1 intE v s) (hl : s.length ≤ 1000000) (hs : o.Kind = 5 → s.Pairwise (· < ·)) :
    Ret Try.prog 33 [v, .agg o.enc.toArray] w fun u w' => (∃ t ok, u = .tuple #[t, .bool ok] ∧ match stepP s o with
      | none => ok = false
      | some s' => ok = true ∧ RdS w' 1 intE t s' ∧ ∀ k, slFoot t k → w.heap.size ≤ k) ∧ Below w.heap.size w w' := by
  refine ent33 _ _ _ _ ?_
  have ho := o.at
  have hw1 : Below w.heap.size w (w.alloc (.cells o.enc.toArray 58)) := (Below.refl _ w).alloc (Nat.le_refl _) _
  simp (disch := first | omega | exact okFill_t rfl | exact okSize_t rfl | exact fun h => h | (simp only [World.size_alloc, World.size_drew, World.size_setCell, size_fill, bytesW]; omega)) only [go_sem, c33, c33S0]
  refine Ret.mono (do_ok v s o _ (h.below hw1 (by decide)) hl hs) ?_
  rintro _ w2 ⟨⟨t, a, ok, rfl, hm⟩, b2⟩
  have bb := Below.next hw1 b2
  have hB2 : Blk w2 w.heap.size o.enc.toArray 58 := Blk.new.below b2 Blk.new.lt
  have r2 := hB2.rules
  cases hd : doP s o with
  | none =>
    rw [hd] at hm
    subst hm
    have e : stepP s o = none := by unfold stepP; rw [hd]
    simp (disch := first | omega | exact okFill_t rfl | exact okSize_t rfl | exact fun h => h | (simp only [World.size_alloc, World.size_drew, World.size_setCell, size_fill, bytesW]; omega)) only [go_sem, c33, c33S0, c33S1, r2, ho]
    exact ⟨⟨_, _, rfl, by rw [e]⟩, bb⟩
  | some p =>
    obtain ⟨s', n⟩ := p
    rw [hd] at hm
    obtain ⟨rfl, rfl, h3, f3⟩ := hm
    have f3' : ∀ k, slFoot t k → w.heap.size ≤ k := fun k hk => by have := f3 k hk; simp only [World.size_alloc] at this; omega
    obtain ⟨ta, tc, rfl, _⟩ := h3.form
    cases hdn : o.Done with
    | false =>
      have e : stepP s o = some s' := by unfold stepP; rw [hd]; simp [hdn]
      simp (disch := first | omega | exact okFill_t rfl | exact okSize_t rfl | exact fun h => h | (simp only [World.size_alloc, World.size_drew, World.size_setCell, size_fill, bytesW]; omega)) only [go_sem, c33, c33S0, c33S1, r2, ho, hdn]
      exact ⟨⟨_, _, rfl, by rw [e]; exact ⟨rfl, h3, f3'⟩⟩, bb⟩
    | true =>
      simp (disch := first | omega | exact okFill_t rfl | exact okSize_t rfl | exact fun h => h | (simp only [World.size_alloc, World.size_drew, World.size_setCell, size_fill, bytesW]; omega)) only [go_sem, c33, c33S0, c33S1, r2, ho, hdn]
      refine ⟨fun hne => ⟨⟨_, _, rfl, ?_⟩, bb⟩, fun heq => ⟨⟨_, _, rfl, ?_⟩, bb⟩⟩
      · rw [show stepP s o = none by unfold stepP; rw [hd]; simp [hdn, hne]]
      · rw [show stepP s o = some s' by unfold stepP; rw [hd]; simp [hdn, heq]]
        exact ⟨rfl, h3, f3'⟩
end Go.Proofs.Ytbeoedgoikcbpaa

namespace Go.Proofs.Ytbeoedgoikcbpaa
set_option linter.unusedSimpArgs false
set_option linter.unusedVariables false
set_option maxRecDepth 100000
open Go Go.Ann Go.RowKit
theorem insP_app {t : List Int} {y n : Int} (h : n < y) : insP (t ++ [y]) n = insP t n ++ [y] := by
  unfold insP
  have hc := List.countP_le_length (p := fun z : Int => decide (z < n)) (l := t)
  rw [List.countP_append, List.countP_singleton, if_neg (by simp; omega), Nat.add_zero, List.take_append_of_le_length hc, List.drop_append_of_le_length hc]
  simp
theorem insP_end {t : List Int} {n : Int} (h : ∀ y ∈ t, y < n) : insP t n = t ++ [n] := by
  unfold insP
  rw [List.countP_eq_length.2 (fun y hy => by simpa using h y hy), List.take_length, List.drop_length]
def withP (t : List Int) (n : Int) : List Int := if t.any (fun y => decide (n < y)) then insP t n else t
theorem with_ok (v : Value) (s : List Int) (n : Int) (w : World) (h : RdS w 1 intE v s) (hl : s.length ≤ 1000000) (hs : s.Pairwise (· < ·)) (hn : n ∉ s) :
    Ret Try.prog 108 [v, .int .i64 n] w fun u w' => w'.ownsRow w.heap.size 3 1 u (insP s n).length ((insP s n).flatMap intE) ∧ Below w.heap.size w w' := by
  obtain ⟨a, c, rfl, _⟩ := h.form
  refine ent108 _ _ _ _ ?_
  simp (disch := first | omega | exact okFill_t rfl | exact okSize_t rfl | exact fun h => h | (simp only [World.size_alloc, World.size_drew, World.size_setCell, size_fill, bytesW]; omega)) only [go_sem, c108, c108S0, c108S1, c108S2, c108S3, c108L0, c108S4]
  have s1 := (St.start (W0 := w)).nilRow 3 1
  have app : ∀ {w2 : World} {u : Value} {t : List Int} {x : Int} {ty : TypeId} {cs : Array Bool} {K : Value → World → Prop}, St w w2 (fun _ => False) [.row u 3 1 t.length (t.flatMap intE)] [] → t.length ≤ 2000000 →
      (∀ u' w', St w w' (fun _ => False) [.row u' 3 1 (t ++ [x]).length ((t ++ [x]).flatMap intE)] [] → K u' w') →
      rawB Try.prog .append #[36, 36] ty cs [u, .slice (some ⟨w2.heap.size, 0, none⟩) 1 1] (w2.alloc (.cells #[.int .i64 x] 3)) K := by
    intro w2 u t x ty cs K s2 ht hK
    have hx : Rd (w2.alloc (.cells #[.int .i64 x] 3)) 1 (.slice (some ⟨w2.heap.size, 0, none⟩) 1 1) 1 (intE x) := rd_new (n := 1) (cs := #[.int .i64 x]) rfl
    refine (s2.alloc' (.cells #[.int .i64 x] 3)).append 0 rfl ty36mkI rfl (by decide) hx (intE_one x) (by omega) (by omega) ?_
    intro v6 w6 s6 c6
    refine hK _ _ ?_
    rw [List.length_append, List.flatMap_append]
    simpa using s6
  refine W_loopU (fun x : Nat × Value => [(5, x.2), (6, .bool ((s.take x.1).any fun y => decide (n < y))), (7, .int .i64 x.1)]) (fun x w' => St w w' (fun _ => False) [.row x.2 3 1 (withP (s.take x.1) n).length ((withP (s.take x.1) n).flatMap intE)] [] ∧ x.1 ≤ s.length) (fun x => s.length - x.1) (0, .slice none 0 0) rfl ⟨s1, Nat.zero_le _⟩ ?_
  rintro ⟨k, u⟩ w2 ⟨s2, hk⟩
  simp only at s2 hk
  have hwl : (withP (s.take k) n).length ≤ k + 1 := by
    unfold withP insP; split <;> simp <;> omega
  obtain ⟨au, cu, rfl, _⟩ := own_slice (s2.row 0 rfl)
  by_cases hlt : k < s.length
  · have hlt' : (k : Int) < s.length := by omega
    obtain ⟨p, rfl⟩ := h.ptr (by omega)
    have ek := RdS.int (h.below s2.bel (by decide)) hlt
    have et : s.take (k + 1) = s.take k ++ [s[k]] := List.take_succ_eq_append_getElem hlt
    have hsk : s[k] ≠ n := fun e => hn (by rw [← e]; exact List.getElem_mem hlt)
    have gt : ∀ y ∈ s.take k, y < s[k] := fun y hy => by
      obtain ⟨j, hj, rfl⟩ := List.mem_iff_getElem.1 hy
      rw [List.getElem_take]
      exact List.pairwise_iff_getElem.1 hs j k (by simp at hj; omega) hlt (by simp at hj; omega)
    have w1 : (s.take k).any (fun y => decide (n < y)) = false → n < s[k] → withP (s.take (k + 1)) n = withP (s.take k) n ++ [n] ++ [s[k]] := fun h1 h2 => by
      unfold withP
      rw [h1, et, List.any_append]
      simp only [List.any_cons, h2, decide_true, Bool.true_or, Bool.or_true, if_true]
      rw [insP_app h2, insP_end fun y hy => ?_]
      · rfl
      · have := List.any_eq_false.1 h1 y hy
        have hne : y ≠ n := fun e => hn (by rw [← e]; exact List.mem_of_mem_take hy)
        simp at this; omega
    have w2' : (s.take k).any (fun y => decide (n < y)) = false → ¬ n < s[k] → withP (s.take (k + 1)) n = withP (s.take k) n ++ [s[k]] := fun h1 h2 => by
      unfold withP
      rw [et, List.any_append, h1]
      simp only [List.any_cons, List.any_nil, decide_eq_false h2, Bool.or_self, Bool.false_eq_true, if_false]
    have w3 : (s.take k).any (fun y => decide (n < y)) = true → withP (s.take (k + 1)) n = withP (s.take k) n ++ [s[k]] := fun h1 => by
      obtain ⟨y, hy, e⟩ := List.any_eq_true.1 h1
      have h2 : n < s[k] := by have := gt y hy; simp at e; omega
      unfold withP
      rw [et, List.any_append, h1]
      simp only [Bool.true_or, if_true]
      exact insP_app h2
    simp (disch := first | omega | exact okFill_t rfl | exact okSize_t rfl | exact fun h => h | (simp only [World.size_alloc, World.size_drew, World.size_setCell, size_fill, bytesW]; omega)) only [go_sem, c108, c108S0, c108S1, c108S2, c108S3, c108L0, c108S4, c108S5, hlt', ek]
    have et_any : (s.take (k + 1)).any (fun y => decide (n < y)) = ((s.take k).any (fun y => decide (n < y)) || decide (n < s[k])) := by
      rw [et, List.any_append]; simp
    have last : ∀ {w3 : World} {u3 : Value}, St w w3 (fun _ => False) [.row u3 3 1 (withP (s.take (k + 1)) n).length ((withP (s.take (k + 1)) n).flatMap intE)] [] → St w w3 (fun _ => False) [.row u3 3 1 (withP (s.take (k + 1)) n).length ((withP (s.take (k + 1)) n).flatMap intE)] [] ∧ k + 1 ≤ s.length := fun h => ⟨h, by omega⟩
    refine ⟨fun h1 => ⟨by omega, fun h2 => ?_, fun h2 => ⟨by omega, ?_⟩⟩, fun h1 => ⟨by omega, ?_⟩⟩
    · refine bsW_ones ty36mkI rfl rfl (by decide) (by decide) (intE_one _) ?_
      simp (disch := first | omega | exact okFill_t rfl | exact okSize_t rfl | exact fun h => h | (simp only [World.size_alloc, World.size_drew, World.size_setCell, size_fill, bytesW]; omega)) only [go_sem, c108, c108S0, c108S1, c108S2, c108S3, c108L0, c108S4, c108S5]
      refine app s2 (by omega) ?_
      intro v6 w6 s6
      have ek6 := RdS.int (h.below s6.bel (by decide)) hlt
      obtain ⟨a6, c6, rfl, _⟩ := own_slice (s6.row 0 rfl)
      simp (disch := first | omega | exact okFill_t rfl | exact okSize_t rfl | exact fun h => h | (simp only [World.size_alloc, World.size_drew, World.size_setCell, size_fill, bytesW]; omega)) only [go_sem, c108, c108S0, c108S1, c108S2, c108S3, c108L0, c108S4, c108S5, ek6]
      refine ⟨⟨by omega, by omega⟩, ?_⟩
      refine bsW_ones ty36mkI rfl rfl (by decide) (by decide) (intE_one _) ?_
      simp (disch := first | omega | exact okFill_t rfl | exact okSize_t rfl | exact fun h => h | (simp only [World.size_alloc, World.size_drew, World.size_setCell, size_fill, bytesW]; omega)) only [go_sem, c108, c108S0, c108S1, c108S2, c108S3, c108L0, c108S4, c108S5]
      refine app s6 (by simp; omega) ?_
      intro v7 w7 s7
      simp (disch := first | omega | exact okFill_t rfl | exact okSize_t rfl | exact fun h => h | (simp only [World.size_alloc, World.size_drew, World.size_setCell, size_fill, bytesW]; omega)) only [go_sem, c108, c108S0, c108S1, c108S2, c108S3, c108L0, c108S4, c108S5]
      rw [← w1 h1 h2] at s7
      refine ⟨⟨by omega, by omega⟩, (k + 1, v7), ?_, last s7, by simp only; omega⟩
      rw [et_any, h1, decide_eq_true h2]; rfl
    · refine bsW_ones ty36mkI rfl rfl (by decide) (by decide) (intE_one _) ?_
      simp (disch := first | omega | exact okFill_t rfl | exact okSize_t rfl | exact fun h => h | (simp only [World.size_alloc, World.size_drew, World.size_setCell, size_fill, bytesW]; omega)) only [go_sem, c108, c108S0, c108S1, c108S2, c108S3, c108L0, c108S4, c108S5]
      refine app s2 (by omega) ?_
      intro v6 w6 s6
      simp (disch := first | omega | exact okFill_t rfl | exact okSize_t rfl | exact fun h => h | (simp only [World.size_alloc, World.size_drew, World.size_setCell, size_fill, bytesW]; omega)) only [go_sem, c108, c108S0, c108S1, c108S2, c108S3, c108L0, c108S4, c108S5]
      rw [← w2' h1 (by omega)] at s6
      refine ⟨⟨by omega, by omega⟩, (k + 1, v6), ?_, last s6, by simp only; omega⟩
      rw [et_any, h1, decide_eq_false (by omega : ¬ n < s[k])]; rfl
    · refine bsW_ones ty36mkI rfl rfl (by decide) (by decide) (intE_one _) ?_
      simp (disch := first | omega | exact okFill_t rfl | exact okSize_t rfl | exact fun h => h | (simp only [World.size_alloc, World.size_drew, World.size_setCell, size_fill, bytesW]; omega)) only [go_sem, c108, c108S0, c108S1, c108S2, c108S3, c108L0, c108S4, c108S5]
      refine app s2 (by omega) ?_
      intro v6 w6 s6
      simp (disch := first | omega | exact okFill_t rfl | exact okSize_t rfl | exact fun h => h | (simp only [World.size_alloc, World.size_drew, World.size_setCell, size_fill, bytesW]; omega)) only [go_sem, c108, c108S0, c108S1, c108S2, c108S3, c108L0, c108S4, c108S5]
      rw [← w3 h1] at s6
      refine ⟨⟨by omega, by omega⟩, (k + 1, v6), ?_, last s6, by simp only; omega⟩
      rw [et_any, h1]; rfl
  · have hlt' : ¬ (k : Int) < s.length := by omega
    have hks : s.take k = s := List.take_of_length_le (by omega)
    rw [hks] at s2 hwl ⊢
    cases hd : s.any fun y => decide (n < y) with
    | true =>
      simp (disch := first | omega | exact okFill_t rfl | exact okSize_t rfl | exact fun h => h | (simp only [World.size_alloc, World.size_drew, World.size_setCell, size_fill, bytesW]; omega)) only [go_sem, c108, c108S0, c108S1, c108S2, c108S3, c108L0, c108S4, c108S5, hlt']
      have e := s2.row 0 rfl
      rw [show withP s n = insP s n by unfold withP; rw [hd]; rfl] at e ⊢
      exact ⟨e, s2.bel⟩
    | false =>
      simp (disch := first | omega | exact okFill_t rfl | exact okSize_t rfl | exact fun h => h | (simp only [World.size_alloc, World.size_drew, World.size_setCell, size_fill, bytesW]; omega)) only [go_sem, c108, c108S0, c108S1, c108S2, c108S3, c108L0, c108S4, c108S5, hlt']
      have e1 : withP s n = s := by unfold withP; rw [hd]; rfl
      have e2 : insP s n = s ++ [n] := insP_end fun y hy => by
        have := List.any_eq_false.1 hd y hy
        have hne : y ≠ n := fun e => hn (by rw [← e]; exact hy)
        simp at this; omega
      rw [e1] at s2 ⊢
      refine bsW_ones ty36mkI rfl rfl (by decide) (by decide) (intE_one _) ?_
      simp (disch := first | omega | exact okFill_t rfl | exact okSize_t rfl | exact fun h => h | (simp only [World.size_alloc, World.size_drew, World.size_setCell, size_fill, bytesW]; omega)) only [go_sem, c108, c108S0, c108S1, c108S2, c108S3, c108L0, c108S4, c108S5]
      refine app s2 (by omega) ?_
      intro v6 w6 s6
      simp (disch := first | omega | exact okFill_t rfl | exact okSize_t rfl | exact fun h => h | (simp only [World.size_alloc, World.size_drew, World.size_setCell, size_fill, bytesW]; omega)) only [go_sem, c108, c108S0, c108S1, c108S2, c108S3, c108L0, c108S4, c108S5]
      rw [e2]
      exact ⟨s6.row 0 rfl, s6.bel⟩
end Go.Proofs.Ytbeoedgoikcbpaa

namespace Go.Proofs.Ytbeoedgoikcbpaa
set_option linter.unusedSimpArgs false
set_option linter.unusedVariables false
set_option maxRecDepth 100000
open Go Go.Ann Go.RowKit
theorem rd_blk1 {w : World} {b : Nat} {x : Int} (h : Blk w b #[.int .i64 x] 3) : Rd w 1 (.slice (some ⟨b, 0, none⟩) 1 1) 1 (intE x) :=
  ⟨rfl, _, 1, rfl, Nat.le_refl _, fun _ => ⟨_, rfl, fun j u hu => by rw [Addr.add_lit, Nat.zero_add, h.cell]; simpa [intE] using hu⟩⟩
set_option maxHeartbeats 2000000 in
theorem rdo_ok (v : Value) (s : List Int) (o : OpT) (w : World) (h : RdS w 1 intE v s) (hl : s.length ≤ 1000000) (hs : o.Kind = 5 → s.Pairwise (· < ·)) :
    Ret Try.prog 76 [v, .agg o.enc.toArray] w fun u w' => StepA w w' v (doP s o) u ∧ Below w.heap.size w w' := by
  obtain ⟨a, c, rfl, hac⟩ := h.form
  refine ent76 _ _ _ _ ?_
  have ho := o.at
  have s2 := ((St.start (W0 := w)).box o.enc.toArray 58).box #[.slice none 0 0, .int .i64 0, .bool false] 117
  rw [World.size_alloc] at s2
  have r0 := s2.rules 1 rfl
  simp (disch := first | omega | exact okFill_t rfl | exact okSize_t rfl | exact fun h => h | (simp only [World.size_alloc, World.size_drew, World.size_setCell, size_fill, bytesW]; omega)) only [go_sem, c76, c76S0, c76S1, c76S2, c76S3, c76S4, c76S5, c76S6, c76S7, c76S8, c76S9, c76S10, c76S11, c76S12, c76S13, c76S14, c76S15, c76S16, c76S17, c76S18, c76S19]
  refine c76draw0 ?_
  have s3 := s2.drew
  have r3 := s3.rules 1 rfl
  simp (disch := first | omega | exact okFill_t rfl | exact okSize_t rfl | exact fun h => h | (simp only [World.size_alloc, World.size_drew, World.size_setCell, size_fill, bytesW]; omega)) only [go_sem, c76, c76S0, c76S1, c76S2, c76S3, c76S4, c76S5, c76S6, c76S7, c76S8, c76S9, c76S10, c76S11, c76S12, c76S13, c76S14, c76S15, c76S16, c76S17, c76S18, c76S19, c76D0, r0, ho]
  generalize ((w.alloc (.cells o.enc.toArray 58)).alloc (.cells #[.slice none 0 0, .int .i64 0, .bool false] 117)).drew = w2 at s3 r3 ⊢
  clear s2 r0
  have h2 := h.below s3.bel (by decide)
  have q3 := s3.rules 0 rfl
  have hsz := s3.size
  have lt0 := (s3.low 0 rfl).2
  have res : ∀ {w3 : World} {z : Array Value} {u : Value} {t : List Int} {n : Int}, St w w3 (fun _ => False) [.blk (w.heap.size + 1) z 117, .blk w.heap.size o.enc.toArray 58] [] → z.size = 3 → doP s o = some (t, n) → RdS w3 1 intE u t →
      (∀ k, slFoot u k → slFoot (.slice a s.length c) k ∨ w.heap.size ≤ k) → (∀ k, slFoot u k → k ≠ w.heap.size + 1) →
      StepA w (w3.fill (w.heap.size + 1) #[u, .int .i64 n, .bool true]) (.slice a s.length c) (doP s o) (.agg #[u, .int .i64 n, .bool true]) ∧ Below w.heap.size w (w3.fill (w.heap.size + 1) #[u, .int .i64 n, .bool true]) := by
    intro w3 z u t n s4 hz e hu hf hne
    refine ⟨⟨_, _, _, rfl, by obtain ⟨a, c, e, _⟩ := hu.form; exact ⟨_, _, _, e⟩, ?_⟩, (s4.fill 0 rfl (cs := #[u, .int .i64 n, .bool true]) (by rw [hz]; rfl)).bel⟩
    rw [e]
    refine ⟨rfl, rfl, RdS.loc hu fun k hk => ?_, hf⟩
    exact ((Chg.refl (fun k => k = w.heap.size + 1) w3).fill (b := w.heap.size + 1) (cs := #[u, .int .i64 n, .bool true]) fun _ => rfl).block k (hu.footLt (by decide) hk) (hne k hk)
  have bad : ∀ {w3 : World} {z : Array Value}, St w w3 (fun _ => False) [.blk (w.heap.size + 1) z 117, .blk w.heap.size o.enc.toArray 58] [] → z.size = 3 → doP s o = none →
      StepA w (w3.fill (w.heap.size + 1) #[.slice none 0 0, .int .i64 0, .bool false]) (.slice a s.length c) (doP s o) (.agg #[.slice none 0 0, .int .i64 0, .bool false]) ∧ Below w.heap.size w (w3.fill (w.heap.size + 1) #[.slice none 0 0, .int .i64 0, .bool false]) := by
    intro w3 z s4 hz e
    exact ⟨⟨_, _, _, rfl, ⟨_, _, _, rfl⟩, by rw [e]⟩, (s4.fill 0 rfl (cs := #[.slice none 0 0, .int .i64 0, .bool false]) (by rw [hz]; rfl)).bel⟩
  have oldF : ∀ {k}, slFoot (.slice a s.length c) k → slFoot (.slice a s.length c) k ∨ w.heap.size ≤ k := fun hk => .inl hk
  have push : ∀ (x y : Int), doP s o = some (s ++ [o.Arg], 0) → drawW Try.prog (drawOps 1 c76code) [4]
      [(0, .slice a s.length c), (3, .pointer (some ⟨w.heap.size, 0, none⟩)), (4, .pointer (some ⟨w.heap.size + 1, 0, none⟩)), (5, .int .i64 x), (6, .int .i64 y), (34, .bool true)] w2
      (thenQ Try.prog (sg c76S1) (thenQ Try.prog (sg c76S18) (finQ Try.prog [.cell 4 117] fun u w' => StepA w w' (.slice a s.length c) (doP s o) u ∧ Below w.heap.size w w'))) := by
    intro x y hd
    refine c76draw1 (Chg (fun k => k = w.heap.size + 1) _) (Chg.refl _ _) ?_
    have s4 := s3.drew
    have r4 := s4.rules 1 rfl
    have t4 := St.start (W0 := w2.drew)
    have hx : Rd w2.drew 1 (.slice a s.length c) s.length (s.flatMap intE) := h2.below (Below.refl _ w2).drew (by decide)
    have h4 : RdS w2.drew 1 intE (.slice a s.length c) s := hx
    simp (disch := first | omega | exact okFill_t rfl | exact okSize_t rfl | exact fun h => h | (simp only [World.size_alloc, World.size_drew, World.size_setCell, size_fill, bytesW]; omega)) only [go_sem, c76, c76S0, c76S1, c76S2, c76S3, c76S4, c76S5, c76S6, c76S7, c76S8, c76S9, c76S10, c76S11, c76S12, c76S13, c76S14, c76S15, c76S16, c76S17, c76S18, c76S19, c76S20, c76D1, r4, ho]
    have cel : ∀ {w7 : World}, St w w7 (fun _ => False) [.blk (w.heap.size + 1) #[.slice none 0 0, .int .i64 0, .bool false] 117, .blk w.heap.size o.enc.toArray 58] [] → (∀ i, w7.cell? ⟨w.heap.size + 1, i, none⟩ = (#[Value.slice none 0 0, .int .i64 0, .bool false])[i]?) ∧ (∀ i, w7.frozen? ⟨w.heap.size + 1, i, none⟩ = false) := fun s7 => ⟨(s7.rules 0 rfl).1, (s7.rules 0 rfl).2.1⟩
    have fin : ∀ {u : Value} {w8 : World}, St w2.drew w8 (fun _ => False) [.row u 3 1 (s.length + 1) (s.flatMap intE ++ intE o.Arg)] [] → RdS w8 1 intE u (s ++ [o.Arg]) ∧ ∀ k, slFoot u k → w.heap.size + 2 ≤ k := fun t8 => by
      refine ⟨RdS.of_own' (t8.row 0 rfl) (s ++ [o.Arg]) (by simp) (by rw [List.flatMap_append]; simp), fun k hk => ?_⟩
      have := (World.ownsRow.lt (t8.row 0 rfl) k (slFoot_own hk)).1
      simp only [World.size_drew] at this
      omega
    refine ⟨?_, ?_⟩
    · refine bsW_none ty36mkI ?_
      have t5 := t4.emptyRow 3 1
      simp (disch := first | omega | exact okFill_t rfl | exact okSize_t rfl | exact fun h => h | (simp only [World.size_alloc, World.size_drew, World.size_setCell, size_fill, bytesW]; omega)) only [go_sem, c76, c76S0, c76S1, c76S2, c76S3, c76S4, c76S5, c76S6, c76S7, c76S8, c76S9, c76S10, c76S11, c76S12, c76S13, c76S14, c76S15, c76S16, c76S17, c76S18, c76S19, c76S20]
      refine ⟨Chg.of_below t5.bel, ?_, ?_⟩
      · refine t5.append 0 rfl ty36mkI rfl (by decide) (Rd.below hx (t5.bel) (by decide)) (ints_one s) (by omega) (by omega) ?_
        intro v6 w6 t6 c6
        simp only [List.set_cons_zero, List.nil_append, Nat.zero_add] at t6
        obtain ⟨a6, d6, rfl, _⟩ := own_slice (t6.row 0 rfl)
        simp (disch := first | omega | exact okFill_t rfl | exact okSize_t rfl | exact fun h => h | (simp only [World.size_alloc, World.size_drew, World.size_setCell, size_fill, bytesW]; omega)) only [go_sem, c76, c76S0, c76S1, c76S2, c76S3, c76S4, c76S5, c76S6, c76S7, c76S8, c76S9, c76S10, c76S11, c76S12, c76S13, c76S14, c76S15, c76S16, c76S17, c76S18, c76S19, c76S20]
        refine ⟨Chg.of_below t6.bel, bsW_ones ty36mkI rfl rfl (by decide) (by decide) (intE_one _) ?_⟩
        simp (disch := first | omega | exact okFill_t rfl | exact okSize_t rfl | exact fun h => h | (simp only [World.size_alloc, World.size_drew, World.size_setCell, size_fill, bytesW]; omega)) only [go_sem, c76, c76S0, c76S1, c76S2, c76S3, c76S4, c76S5, c76S6, c76S7, c76S8, c76S9, c76S10, c76S11, c76S12, c76S13, c76S14, c76S15, c76S16, c76S17, c76S18, c76S19, c76S20]
        have t7 := t6.alloc' (.cells #[.int .i64 o.Arg] 3)
        refine ⟨Chg.of_below t7.bel, t7.append 0 rfl ty36mkI rfl (by decide) (show Rd _ 1 (.slice (some ⟨w6.heap.size, 0, none⟩) 1 1) 1 (intE o.Arg) from rd_new (n := 1) (cs := #[.int .i64 o.Arg]) rfl) (intE_one _) (by omega) (by omega) ?_⟩
        intro v8 w8 t8 c8
        simp only [List.set_cons_zero] at t8
        obtain ⟨a8, d8, rfl, _⟩ := own_slice (t8.row 0 rfl)
        simp (disch := first | omega | exact okFill_t rfl | exact okSize_t rfl | exact fun h => h | (simp only [World.size_alloc, World.size_drew, World.size_setCell, size_fill, bytesW]; omega)) only [go_sem, c76, c76S0, c76S1, c76S2, c76S3, c76S4, c76S5, c76S6, c76S7, c76S8, c76S9, c76S10, c76S11, c76S12, c76S13, c76S14, c76S15, c76S16, c76S17, c76S18, c76S19, c76S20]
        refine ⟨Chg.of_below t8.bel, ?_⟩
        refine bdW_built (cells := #[.slice a8 (s.length + 1) d8, .int .i64 0, .bool true]) (by kernel_rfl) ?_
        have s8 := s4.call t8.bel
        have e8 := cel s8
        obtain ⟨f1, f2⟩ := fin t8
        simp (disch := first | omega | exact okFill_t rfl | exact okSize_t rfl | exact fun h => h | (simp only [World.size_alloc, World.size_drew, World.size_setCell, size_fill, bytesW]; omega)) only [go_sem, c76, c76S0, c76S1, c76S2, c76S3, c76S4, c76S5, c76S6, c76S7, c76S8, c76S9, c76S10, c76S11, c76S12, c76S13, c76S14, c76S15, c76S16, c76S17, c76S18, c76S19, c76S20, e8]
        refine ⟨Chg.of_below t8.bel, (Chg.of_below t8.bel).fill fun _ => rfl, ?_⟩
        exact res s8 rfl hd f1 (fun k hk => .inr (by have := f2 k hk; omega)) (fun k hk => by have := f2 k hk; omega)
      · refine bsW_ones ty36mkI rfl rfl (by decide) (by decide) (intE_one _) ?_
        have t6 := t5.box #[.int .i64 o.Arg] 3
        simp (disch := first | omega | exact okFill_t rfl | exact okSize_t rfl | exact fun h => h | (simp only [World.size_alloc, World.size_drew, World.size_setCell, size_fill, bytesW]; omega)) only [go_sem, c76, c76S0, c76S1, c76S2, c76S3, c76S4, c76S5, c76S6, c76S7, c76S8, c76S9, c76S10, c76S11, c76S12, c76S13, c76S14, c76S15, c76S16, c76S17, c76S18, c76S19, c76S20]
        refine ⟨Chg.of_below t6.bel, t6.append 1 rfl ty36mkI rfl (by decide) (Rd.below hx (t6.bel) (by decide)) (ints_one s) (by omega) (by omega) ?_⟩
        intro v6 w6 t7 c6
        simp only [List.set_cons_zero, List.set_cons_succ, List.nil_append, Nat.zero_add] at t7
        obtain ⟨a6, d6, rfl, _⟩ := own_slice (t7.row 1 rfl)
        simp (disch := first | omega | exact okFill_t rfl | exact okSize_t rfl | exact fun h => h | (simp only [World.size_alloc, World.size_drew, World.size_setCell, size_fill, bytesW]; omega)) only [go_sem, c76, c76S0, c76S1, c76S2, c76S3, c76S4, c76S5, c76S6, c76S7, c76S8, c76S9, c76S10, c76S11, c76S12, c76S13, c76S14, c76S15, c76S16, c76S17, c76S18, c76S19, c76S20]
        have hB : Blk w6 (w2.heap.size + 1) #[.int .i64 o.Arg] 3 := by have := t7.blk 0 rfl; simpa only [World.size_alloc, World.size_drew] using this
        refine ⟨Chg.of_below t7.bel, (t7.sub (L' := [.row (.slice a6 s.length d6) 3 1 s.length (s.flatMap intE)]) (by simp)).append 0 rfl ty36mkI rfl (by decide) (rd_blk1 hB) (intE_one _) (by omega) (by omega) ?_⟩
        intro v8 w8 t8 c8
        simp only [List.set_cons_zero] at t8
        obtain ⟨a8, d8, rfl, _⟩ := own_slice (t8.row 0 rfl)
        simp (disch := first | omega | exact okFill_t rfl | exact okSize_t rfl | exact fun h => h | (simp only [World.size_alloc, World.size_drew, World.size_setCell, size_fill, bytesW]; omega)) only [go_sem, c76, c76S0, c76S1, c76S2, c76S3, c76S4, c76S5, c76S6, c76S7, c76S8, c76S9, c76S10, c76S11, c76S12, c76S13, c76S14, c76S15, c76S16, c76S17, c76S18, c76S19, c76S20]
        refine ⟨Chg.of_below t8.bel, ?_⟩
        refine bdW_built (cells := #[.slice a8 (s.length + 1) d8, .int .i64 0, .bool true]) (by kernel_rfl) ?_
        have s8 := s4.call t8.bel
        have e8 := cel s8
        obtain ⟨f1, f2⟩ := fin t8
        simp (disch := first | omega | exact okFill_t rfl | exact okSize_t rfl | exact fun h => h | (simp only [World.size_alloc, World.size_drew, World.size_setCell, size_fill, bytesW]; omega)) only [go_sem, c76, c76S0, c76S1, c76S2, c76S3, c76S4, c76S5, c76S6, c76S7, c76S8, c76S9, c76S10, c76S11, c76S12, c76S13, c76S14, c76S15, c76S16, c76S17, c76S18, c76S19, c76S20, e8]
        refine ⟨Chg.of_below t8.bel, (Chg.of_below t8.bel).fill fun _ => rfl, ?_⟩
        exact res s8 rfl hd f1 (fun k hk => .inr (by have := f2 k hk; omega)) (fun k hk => by have := f2 k hk; omega)
    · refine bsW_ones ty36mkI rfl rfl (by decide) (by decide) (intE_one _) ?_
      have t5 := t4.box #[.int .i64 o.Arg] 3
      simp (disch := first | omega | exact okFill_t rfl | exact okSize_t rfl | exact fun h => h | (simp only [World.size_alloc, World.size_drew, World.size_setCell, size_fill, bytesW]; omega)) only [go_sem, c76, c76S0, c76S1, c76S2, c76S3, c76S4, c76S5, c76S6, c76S7, c76S8, c76S9, c76S10, c76S11, c76S12, c76S13, c76S14, c76S15, c76S16, c76S17, c76S18, c76S19, c76S20]
      refine ⟨Chg.of_below t5.bel, ?_⟩
      · refine bsW_none ty36mkI ?_
        have t6 := t5.emptyRow 3 1
        rw [World.size_alloc, World.size_drew] at t6
        simp (disch := first | omega | exact okFill_t rfl | exact okSize_t rfl | exact fun h => h | (simp only [World.size_alloc, World.size_drew, World.size_setCell, size_fill, bytesW]; omega)) only [go_sem, c76, c76S0, c76S1, c76S2, c76S3, c76S4, c76S5, c76S6, c76S7, c76S8, c76S9, c76S10, c76S11, c76S12, c76S13, c76S14, c76S15, c76S16, c76S17, c76S18, c76S19, c76S20]
        refine ⟨Chg.of_below t6.bel, t6.append 0 rfl ty36mkI rfl (by decide) (Rd.below hx (t6.bel) (by decide)) (ints_one s) (by omega) (by omega) ?_⟩
        intro v6 w6 t7 c6
        simp only [List.set_cons_zero, List.set_cons_succ, List.nil_append, Nat.zero_add] at t7
        obtain ⟨a6, d6, rfl, _⟩ := own_slice (t7.row 0 rfl)
        simp (disch := first | omega | exact okFill_t rfl | exact okSize_t rfl | exact fun h => h | (simp only [World.size_alloc, World.size_drew, World.size_setCell, size_fill, bytesW]; omega)) only [go_sem, c76, c76S0, c76S1, c76S2, c76S3, c76S4, c76S5, c76S6, c76S7, c76S8, c76S9, c76S10, c76S11, c76S12, c76S13, c76S14, c76S15, c76S16, c76S17, c76S18, c76S19, c76S20]
        have hB : Blk w6 w2.heap.size #[.int .i64 o.Arg] 3 := t7.blk 1 rfl
        refine ⟨Chg.of_below t7.bel, (t7.sub (L' := [.row (.slice a6 s.length d6) 3 1 s.length (s.flatMap intE)]) (by simp)).append 0 rfl ty36mkI rfl (by decide) (show Rd w6 1 (.slice (some ⟨w2.heap.size, 0, none⟩) 1 1) 1 (intE o.Arg) from rd_blk1 hB) (intE_one _) (by omega) (by omega) ?_⟩
        intro v8 w8 t8 c8
        simp only [List.set_cons_zero] at t8
        obtain ⟨a8, d8, rfl, _⟩ := own_slice (t8.row 0 rfl)
        simp (disch := first | omega | exact okFill_t rfl | exact okSize_t rfl | exact fun h => h | (simp only [World.size_alloc, World.size_drew, World.size_setCell, size_fill, bytesW]; omega)) only [go_sem, c76, c76S0, c76S1, c76S2, c76S3, c76S4, c76S5, c76S6, c76S7, c76S8, c76S9, c76S10, c76S11, c76S12, c76S13, c76S14, c76S15, c76S16, c76S17, c76S18, c76S19, c76S20]
        refine ⟨Chg.of_below t8.bel, ?_⟩
        refine bdW_built (cells := #[.slice a8 (s.length + 1) d8, .int .i64 0, .bool true]) (by kernel_rfl) ?_
        have s8 := s4.call t8.bel
        have e8 := cel s8
        obtain ⟨f1, f2⟩ := fin t8
        simp (disch := first | omega | exact okFill_t rfl | exact okSize_t rfl | exact fun h => h | (simp only [World.size_alloc, World.size_drew, World.size_setCell, size_fill, bytesW]; omega)) only [go_sem, c76, c76S0, c76S1, c76S2, c76S3, c76S4, c76S5, c76S6, c76S7, c76S8, c76S9, c76S10, c76S11, c76S12, c76S13, c76S14, c76S15, c76S16, c76S17, c76S18, c76S19, c76S20, e8]
        refine ⟨Chg.of_below t8.bel, (Chg.of_below t8.bel).fill fun _ => rfl, ?_⟩
        exact res s8 rfl hd f1 (fun k hk => .inr (by have := f2 k hk; omega)) (fun k hk => by have := f2 k hk; omega)
  have oldL : ∀ {k n c'}, slFoot (.slice a n c') k → n ≤ s.length → k ≠ w.heap.size + 1 := fun {k n c'} hk hn e => by
    obtain ⟨q, n', c'', e1, h0, rfl⟩ := hk
    cases e1
    have := h.footLt (by decide) (k := q.block) ⟨q, _, _, rfl, by omega, rfl⟩
    omega
  have ti : ((s.length : Int) - 1).toNat = s.length - 1 := by omega
  have h3 : RdS w2.drew 1 intE (.slice a s.length c) s := h2.below (Below.refl _ w2).drew (by decide)
  have s4 := s3.drew
  have r4 := s4.rules 1 rfl
  have q4 := s4.rules 0 rfl
  have setc : ∀ {w3 : World}, Below w2.heap.size w2 w3 → St w w3 (fun _ => False) [.blk (w.heap.size + 1) #[.slice none 0 0, .int .i64 0, .bool false] 117, .blk w.heap.size o.enc.toArray 58] [] := fun b => s3.call b
  by_cases k12 : o.Kind = 1 ∨ o.Kind = 2
  · have hd : doP s o = numL s o := by unfold doP; rw [if_pos k12]
    have num : Ret Try.prog 106 [.slice a s.length c, .agg o.enc.toArray] w2 fun u w' => (∃ u' n b, u = .agg #[u', .int .i64 n, .bool b] ∧ (∃ b n c, u' = .slice b n c) ∧ match numL s o with
        | none => b = false
        | some (t, m) => b = true ∧ n = m ∧ RdS w' 1 intE u' t ∧ ∀ k, slFoot u' k → (slFoot (.slice a s.length c) k ∨ w.heap.size ≤ k) ∧ k ≠ w.heap.size + 1) ∧ Below w2.heap.size w2 w' := by
      by_cases hx : ∃ x, s = [x]
      · obtain ⟨x, rfl⟩ := hx
        refine Ret.mono (rnumber_ok _ x o w2 h2) ?_
        rintro u w3 ⟨⟨u', n, b, rfl, ho1, hm⟩, b3⟩
        refine ⟨⟨_, _, _, rfl, ho1, ?_⟩, b3⟩
        show (match numP x o with | none => _ | some (t, m) => _)
        cases hn : numP x o with
        | none => rw [hn] at hm; exact hm
        | some p =>
          rw [hn] at hm
          obtain ⟨e1, e2, e3, e4⟩ := hm
          refine ⟨e1, e2, e3, fun k hk => ?_⟩
          obtain ⟨p, rfl⟩ := h.ptr (by simp)
          have hp := h.footLt (by decide) (k := p.block) ⟨p, _, _, rfl, by simp, rfl⟩
          rcases e4 k hk with e | e
          · refine ⟨.inl e, ?_⟩
            have e := slFoot_own e
            simp only [Value.ownBlock, Option.some.injEq] at e
            omega
          · exact ⟨.inr (by omega), by omega⟩
      · have hne : (s.length : Int) ≠ 1 := fun e => hx (List.length_eq_one_iff.1 (by omega))
        have hn : numL s o = none := numL_not fun x e => hx ⟨x, e⟩
        refine ent106 _ _ _ _ ?_
        have t2 := ((St.start (W0 := w2)).box o.enc.toArray 58).box #[.slice none 0 0, .int .i64 0, .bool false] 117
        rw [World.size_alloc] at t2
        simp (disch := first | omega | exact okFill_t rfl | exact okSize_t rfl | exact fun h => h | (simp only [World.size_alloc, World.size_drew, World.size_setCell, size_fill, bytesW]; omega)) only [go_sem, c106, c106S0, c106S1, c106S2, c106S3, c106S4, c106S5, c106S6, c106S7]
        refine ⟨fun _ => ?_, fun e => absurd e hne⟩
        refine bdW_built (cells := #[.slice none 0 0, .int .i64 0, .bool false]) (by kernel_rfl) ?_
        have u2 := t2.rules 0 rfl
        simp (disch := first | omega | exact okFill_t rfl | exact okSize_t rfl | exact fun h => h | (simp only [World.size_alloc, World.size_drew, World.size_setCell, size_fill, bytesW]; omega)) only [go_sem, c106, c106S0, c106S1, c106S2, c106S3, c106S4, c106S5, c106S6, c106S7, u2]
        exact ⟨⟨_, _, _, rfl, ⟨_, _, _, rfl⟩, by rw [hn]⟩, (t2.fill 0 rfl (cs := #[.slice none 0 0, .int .i64 0, .bool false]) rfl).bel⟩
    rcases k12 with k1 | k1
    all_goals
      simp (disch := first | omega | exact okFill_t rfl | exact okSize_t rfl | exact fun h => h | (simp only [World.size_alloc, World.size_drew, World.size_setCell, size_fill, bytesW]; omega)) only [go_sem, c76, c76S0, c76S1, c76S2, c76S3, c76S4, c76S5, c76S6, c76S7, c76S8, c76S9, c76S10, c76S11, c76S12, c76S13, c76S14, c76S15, c76S16, c76S17, c76S18, c76S19, c76S20, q3, r3, ho, k1]
      refine Ret.mono num ?_
      rintro _ w3 ⟨⟨u', n, b, rfl, ⟨ua, un, uc, rfl⟩, hm⟩, b3⟩
      have s5 := setc b3
      have q5 := s5.rules 0 rfl
      simp (disch := first | omega | exact okFill_t rfl | exact okSize_t rfl | exact fun h => h | (simp only [World.size_alloc, World.size_drew, World.size_setCell, size_fill, bytesW]; omega)) only [go_sem, c76, c76S0, c76S1, c76S2, c76S3, c76S4, c76S5, c76S6, c76S7, c76S8, c76S9, c76S10, c76S11, c76S12, c76S13, c76S14, c76S15, c76S16, c76S17, c76S18, c76S19, c76S20, q5]
      rw [hd]
      cases hn : numL s o with
      | none =>
        rw [hn] at hm
        have hm : b = false := hm
        subst hm
        exact ⟨⟨_, _, _, rfl, ⟨_, _, _, rfl⟩, rfl⟩, (s5.fill 0 rfl (cs := #[.slice ua un uc, .int .i64 n, .bool false]) rfl).bel⟩
      | some p =>
        obtain ⟨t, m⟩ := p
        rw [hn] at hm
        obtain ⟨rfl, rfl, e3, e4⟩ := hm
        have := res s5 rfl (hd.trans hn) e3 (fun k hk => (e4 k hk).1) (fun k hk => (e4 k hk).2)
        rw [hd, hn] at this
        exact this
  have k1 : ¬ o.Kind = 1 := fun e => k12 (.inl e)
  have k2 : ¬ o.Kind = 2 := fun e => k12 (.inr e)
  by_cases k3 : o.Kind = 3
  · have hd : doP s o = listP s o := by unfold doP; rw [if_neg k12, if_pos (.inl k3)]
    by_cases m6 : o.Method = 6
    · simp (disch := first | omega | exact okFill_t rfl | exact okSize_t rfl | exact fun h => h | (simp only [World.size_alloc, World.size_drew, World.size_setCell, size_fill, bytesW]; omega)) only [go_sem, c76, c76S0, c76S1, c76S2, c76S3, c76S4, c76S5, c76S6, c76S7, c76S8, c76S9, c76S10, c76S11, c76S12, c76S13, c76S14, c76S15, c76S16, c76S17, c76S18, c76S19, c76S20, q3, r3, ho, k3, m6]
      exact push _ _ (by rw [hd]; unfold listP; rw [if_pos (.inl ⟨k3, m6⟩)])
    by_cases m7 : o.Method = 7
    · simp (disch := first | omega | exact okFill_t rfl | exact okSize_t rfl | exact fun h => h | (simp only [World.size_alloc, World.size_drew, World.size_setCell, size_fill, bytesW]; omega)) only [go_sem, c76, c76S0, c76S1, c76S2, c76S3, c76S4, c76S5, c76S6, c76S7, c76S8, c76S9, c76S10, c76S11, c76S12, c76S13, c76S14, c76S15, c76S16, c76S17, c76S18, c76S19, c76S20, q3, r3, ho, k3, m7]
      refine ⟨fun h0 => ?_, fun h0 => ?_⟩
      · obtain rfl : s = [] := List.eq_nil_of_length_eq_zero (by omega)
        refine bdW_built (cells := #[.slice none 0 0, .int .i64 (-1), .bool true]) (by kernel_rfl) ?_
        simp (disch := first | omega | exact okFill_t rfl | exact okSize_t rfl | exact fun h => h | (simp only [World.size_alloc, World.size_drew, World.size_setCell, size_fill, bytesW]; omega)) only [go_sem, c76, c76S0, c76S1, c76S2, c76S3, c76S4, c76S5, c76S6, c76S7, c76S8, c76S9, c76S10, c76S11, c76S12, c76S13, c76S14, c76S15, c76S16, c76S17, c76S18, c76S19, c76S20, q3]
        exact res s3 rfl (by rw [hd]; unfold listP; simp [k3, m7]) RdS.nil (fun k hk => absurd hk slFoot_none) (fun k hk => absurd hk slFoot_none)
      · obtain ⟨x, r, rfl⟩ : ∃ x r, s = x :: r := by
          cases s with
          | nil => simp at h0
          | cons x r => exact ⟨x, r, rfl⟩
        obtain ⟨p, rfl⟩ := h2.ptr (by simp)
        have ep := RdS.int h3 (k := 0) (by simp)
        rw [show p.add 0 = p from rfl, show (x :: r)[0] = x from rfl] at ep
        refine c76draw2 ?_
        simp (disch := first | omega | exact okFill_t rfl | exact okSize_t rfl | exact fun h => h | (simp only [World.size_alloc, World.size_drew, World.size_setCell, size_fill, bytesW]; omega)) only [go_sem, c76, c76S0, c76S1, c76S2, c76S3, c76S4, c76S5, c76S6, c76S7, c76S8, c76S9, c76S10, c76S11, c76S12, c76S13, c76S14, c76S15, c76S16, c76S17, c76S18, c76S19, c76S20, c76D2, ep]
        refine ⟨by omega, by omega, ?_⟩
        refine bdW_built (cells := #[.slice (offA (some p) c 1 1) r.length (c - 1), .int .i64 x, .bool true]) (by kernel_rfl) ?_
        simp (disch := first | omega | exact okFill_t rfl | exact okSize_t rfl | exact fun h => h | (simp only [World.size_alloc, World.size_drew, World.size_setCell, size_fill, bytesW]; omega)) only [go_sem, c76, c76S0, c76S1, c76S2, c76S3, c76S4, c76S5, c76S6, c76S7, c76S8, c76S9, c76S10, c76S11, c76S12, c76S13, c76S14, c76S15, c76S16, c76S17, c76S18, c76S19, c76S20, c76D2, q4]
        have hr : RdS w2.drew 1 intE (.slice (offA (some p) c 1 1) r.length (c - 1)) r := rd_drop (k := 1) (show Rd _ 1 (.slice (some p) (x :: r).length c) (x :: r).length ((x :: r).flatMap intE) from h3) (by simp)
        have hb : ∀ {k}, slFoot (.slice (offA (some p) c 1 1) r.length (c - 1)) k → k = p.block := fun hk => (offA_own hk).symm
        have hp := h.footLt (by decide) (k := p.block) ⟨p, _, _, rfl, by simp, rfl⟩
        exact res s4 rfl (by rw [hd]; unfold listP; simp [k3, m7]) hr (fun k hk => .inl ⟨p, _, _, rfl, by simp, hb hk⟩) (fun k hk => by rw [hb hk]; omega)
    · simp (disch := first | omega | exact okFill_t rfl | exact okSize_t rfl | exact fun h => h | (simp only [World.size_alloc, World.size_drew, World.size_setCell, size_fill, bytesW]; omega)) only [go_sem, c76, c76S0, c76S1, c76S2, c76S3, c76S4, c76S5, c76S6, c76S7, c76S8, c76S9, c76S10, c76S11, c76S12, c76S13, c76S14, c76S15, c76S16, c76S17, c76S18, c76S19, c76S20, q3, r3, ho, k3, m6, m7]
      refine c76draw4 ?_
      simp (disch := first | omega | exact okFill_t rfl | exact okSize_t rfl | exact fun h => h | (simp only [World.size_alloc, World.size_drew, World.size_setCell, size_fill, bytesW]; omega)) only [go_sem, c76, c76S0, c76S1, c76S2, c76S3, c76S4, c76S5, c76S6, c76S7, c76S8, c76S9, c76S10, c76S11, c76S12, c76S13, c76S14, c76S15, c76S16, c76S17, c76S18, c76S19, c76S20, c76D4, k3, m6, m7]
      refine bdW_built (cells := #[.slice none 0 0, .int .i64 0, .bool false]) (by kernel_rfl) ?_
      simp (disch := first | omega | exact okFill_t rfl | exact okSize_t rfl | exact fun h => h | (simp only [World.size_alloc, World.size_drew, World.size_setCell, size_fill, bytesW]; omega)) only [go_sem, c76, c76S0, c76S1, c76S2, c76S3, c76S4, c76S5, c76S6, c76S7, c76S8, c76S9, c76S10, c76S11, c76S12, c76S13, c76S14, c76S15, c76S16, c76S17, c76S18, c76S19, c76S20, q4]
      exact bad s4 rfl (by rw [hd]; unfold listP; simp [k3, m6, m7])
  by_cases k4 : o.Kind = 4
  · have hd : doP s o = listP s o := by unfold doP; rw [if_neg k12, if_pos (.inr k4)]
    by_cases m8 : o.Method = 8
    · simp (disch := first | omega | exact okFill_t rfl | exact okSize_t rfl | exact fun h => h | (simp only [World.size_alloc, World.size_drew, World.size_setCell, size_fill, bytesW]; omega)) only [go_sem, c76, c76S0, c76S1, c76S2, c76S3, c76S4, c76S5, c76S6, c76S7, c76S8, c76S9, c76S10, c76S11, c76S12, c76S13, c76S14, c76S15, c76S16, c76S17, c76S18, c76S19, c76S20, q3, r3, ho, k4, m8]
      exact push _ _ (by rw [hd]; unfold listP; rw [if_pos (.inr ⟨k4, m8⟩)])
    by_cases m9 : o.Method = 9
    · simp (disch := first | omega | exact okFill_t rfl | exact okSize_t rfl | exact fun h => h | (simp only [World.size_alloc, World.size_drew, World.size_setCell, size_fill, bytesW]; omega)) only [go_sem, c76, c76S0, c76S1, c76S2, c76S3, c76S4, c76S5, c76S6, c76S7, c76S8, c76S9, c76S10, c76S11, c76S12, c76S13, c76S14, c76S15, c76S16, c76S17, c76S18, c76S19, c76S20, q3, r3, ho, k4, m9]
      refine ⟨fun h0 => ?_, fun h0 => ?_⟩
      · obtain rfl : s = [] := List.eq_nil_of_length_eq_zero (by omega)
        refine bdW_built (cells := #[.slice none 0 0, .int .i64 (-1), .bool true]) (by kernel_rfl) ?_
        simp (disch := first | omega | exact okFill_t rfl | exact okSize_t rfl | exact fun h => h | (simp only [World.size_alloc, World.size_drew, World.size_setCell, size_fill, bytesW]; omega)) only [go_sem, c76, c76S0, c76S1, c76S2, c76S3, c76S4, c76S5, c76S6, c76S7, c76S8, c76S9, c76S10, c76S11, c76S12, c76S13, c76S14, c76S15, c76S16, c76S17, c76S18, c76S19, c76S20, q3]
        exact res s3 rfl (by rw [hd]; unfold listP; simp [k4, m9]) RdS.nil (fun k hk => absurd hk slFoot_none) (fun k hk => absurd hk slFoot_none)
      · have hne : s ≠ [] := fun e => h0 (by rw [e]; rfl)
        have h0' : 0 < s.length := List.length_pos_iff.2 hne
        obtain ⟨p, rfl⟩ := h2.ptr h0'
        have ep := RdS.int h3 (k := s.length - 1) (by omega)
        refine c76draw3 ?_
        simp (disch := first | omega | exact okFill_t rfl | exact okSize_t rfl | exact fun h => h | (simp only [World.size_alloc, World.size_drew, World.size_setCell, size_fill, bytesW]; omega)) only [go_sem, c76, c76S0, c76S1, c76S2, c76S3, c76S4, c76S5, c76S6, c76S7, c76S8, c76S9, c76S10, c76S11, c76S12, c76S13, c76S14, c76S15, c76S16, c76S17, c76S18, c76S19, c76S20, c76D3, ti, ep]
        refine ⟨⟨by omega, by omega⟩, ⟨by omega, by omega⟩, ⟨by omega, by omega⟩, ⟨by omega, by omega⟩, ?_⟩
        refine bdW_built (cells := #[.slice (offA (some p) c 0 1) (s.length - 1) c, .int .i64 s[s.length - 1], .bool true]) (by kernel_rfl) ?_
        simp (disch := first | omega | exact okFill_t rfl | exact okSize_t rfl | exact fun h => h | (simp only [World.size_alloc, World.size_drew, World.size_setCell, size_fill, bytesW]; omega)) only [go_sem, c76, c76S0, c76S1, c76S2, c76S3, c76S4, c76S5, c76S6, c76S7, c76S8, c76S9, c76S10, c76S11, c76S12, c76S13, c76S14, c76S15, c76S16, c76S17, c76S18, c76S19, c76S20, c76D3, q4]
        have hr : RdS w2.drew 1 intE (.slice (offA (some p) c 0 1) (s.length - 1) c) s.dropLast := by
          have := rd_take (k := s.length - 1) (show Rd _ 1 (.slice (some p) s.length c) s.length (s.flatMap intE) from h3) (by omega)
          have e : s.dropLast.flatMap intE = (s.flatMap intE).take ((s.length - 1) * 1) := by
            rw [Nat.mul_one, List.dropLast_eq_take]
            exact ints_take s _
          have e2 : s.dropLast.length = s.length - 1 := List.length_dropLast
          unfold RdS
          rw [e, e2]
          exact this
        have hb : ∀ {k}, slFoot (.slice (offA (some p) c 0 1) (s.length - 1) c) k → k = p.block := fun hk => (offA_own hk).symm
        have hp := h.footLt (by decide) (k := p.block) ⟨p, _, _, rfl, by omega, rfl⟩
        exact res s4 rfl (by rw [hd]; unfold listP; simp [k4, m9, hne, List.getLast_eq_getElem]) hr (fun k hk => .inl ⟨p, _, _, rfl, by omega, hb hk⟩) (fun k hk => by rw [hb hk]; omega)
    · simp (disch := first | omega | exact okFill_t rfl | exact okSize_t rfl | exact fun h => h | (simp only [World.size_alloc, World.size_drew, World.size_setCell, size_fill, bytesW]; omega)) only [go_sem, c76, c76S0, c76S1, c76S2, c76S3, c76S4, c76S5, c76S6, c76S7, c76S8, c76S9, c76S10, c76S11, c76S12, c76S13, c76S14, c76S15, c76S16, c76S17, c76S18, c76S19, c76S20, q3, r3, ho, k4, m8, m9]
      refine c76draw4 ?_
      simp (disch := first | omega | exact okFill_t rfl | exact okSize_t rfl | exact fun h => h | (simp only [World.size_alloc, World.size_drew, World.size_setCell, size_fill, bytesW]; omega)) only [go_sem, c76, c76S0, c76S1, c76S2, c76S3, c76S4, c76S5, c76S6, c76S7, c76S8, c76S9, c76S10, c76S11, c76S12, c76S13, c76S14, c76S15, c76S16, c76S17, c76S18, c76S19, c76S20, c76D4, k4, m8, m9]
      refine bdW_built (cells := #[.slice none 0 0, .int .i64 0, .bool false]) (by kernel_rfl) ?_
      simp (disch := first | omega | exact okFill_t rfl | exact okSize_t rfl | exact fun h => h | (simp only [World.size_alloc, World.size_drew, World.size_setCell, size_fill, bytesW]; omega)) only [go_sem, c76, c76S0, c76S1, c76S2, c76S3, c76S4, c76S5, c76S6, c76S7, c76S8, c76S9, c76S10, c76S11, c76S12, c76S13, c76S14, c76S15, c76S16, c76S17, c76S18, c76S19, c76S20, q4]
      exact bad s4 rfl (by rw [hd]; unfold listP; simp [k4, m8, m9])
  by_cases k6 : o.Kind = 6
  · have hd : doP s o = (if o.Method = 13 ∧ s = [] then some ([o.Proc], 0) else if o.Method = 14 ∧ s = [o.Proc] then some ([], 0) else none) := by unfold doP; rw [if_neg k12, if_neg (by simp [k3, k4]), if_neg (by omega), if_pos k6]
    simp (disch := first | omega | exact okFill_t rfl | exact okSize_t rfl | exact fun h => h | (simp only [World.size_alloc, World.size_drew, World.size_setCell, size_fill, bytesW]; omega)) only [go_sem, c76, c76S0, c76S1, c76S2, c76S3, c76S4, c76S5, c76S6, c76S7, c76S8, c76S9, c76S10, c76S11, c76S12, c76S13, c76S14, c76S15, c76S16, c76S17, c76S18, c76S19, c76S20, q3, r3, ho, k6]
    by_cases m13 : o.Method = 13
    · simp (disch := first | omega | exact okFill_t rfl | exact okSize_t rfl | exact fun h => h | (simp only [World.size_alloc, World.size_drew, World.size_setCell, size_fill, bytesW]; omega)) only [go_sem, c76, c76S0, c76S1, c76S2, c76S3, c76S4, c76S5, c76S6, c76S7, c76S8, c76S9, c76S10, c76S11, c76S12, c76S13, c76S14, c76S15, c76S16, c76S17, c76S18, c76S19, c76S20, m13]
      refine ⟨fun h0 => ?_, fun h0 => ?_⟩
      · obtain rfl : s = [] := List.eq_nil_of_length_eq_zero (by omega)
        refine bsW_ones ty36mkI rfl rfl (by decide) (by decide) (intE_one _) ?_
        simp (disch := first | omega | exact okFill_t rfl | exact okSize_t rfl | exact fun h => h | (simp only [World.size_alloc, World.size_drew, World.size_setCell, size_fill, bytesW]; omega)) only [go_sem, c76, c76S0, c76S1, c76S2, c76S3, c76S4, c76S5, c76S6, c76S7, c76S8, c76S9, c76S10, c76S11, c76S12, c76S13, c76S14, c76S15, c76S16, c76S17, c76S18, c76S19, c76S20]
        refine bdW_built (cells := #[.slice (some ⟨w2.heap.size, 0, none⟩) 1 1, .int .i64 0, .bool true]) (by kernel_rfl) ?_
        have s5 := s3.alloc' (.cells #[.int .i64 o.Proc] 3)
        have q5 := s5.rules 0 rfl
        simp (disch := first | omega | exact okFill_t rfl | exact okSize_t rfl | exact fun h => h | (simp only [World.size_alloc, World.size_drew, World.size_setCell, size_fill, bytesW]; omega)) only [go_sem, c76, c76S0, c76S1, c76S2, c76S3, c76S4, c76S5, c76S6, c76S7, c76S8, c76S9, c76S10, c76S11, c76S12, c76S13, c76S14, c76S15, c76S16, c76S17, c76S18, c76S19, c76S20, q5]
        have fr : ∀ {k}, slFoot (.slice (some ⟨w2.heap.size, 0, none⟩) 1 1) k → k = w2.heap.size := fun hk => by
          have := slFoot_own hk
          simp only [Value.ownBlock, Option.some.injEq] at this
          exact this.symm
        exact res s5 rfl (by rw [hd, if_pos ⟨m13, rfl⟩]) (int_new o.Proc rfl) (fun k hk => .inr (by rw [fr hk]; omega)) (fun k hk => by rw [fr hk]; omega)
      · have hne : s ≠ [] := fun e => h0 (by rw [e]; rfl)
        refine c76draw4 ?_
        simp (disch := first | omega | exact okFill_t rfl | exact okSize_t rfl | exact fun h => h | (simp only [World.size_alloc, World.size_drew, World.size_setCell, size_fill, bytesW]; omega)) only [go_sem, c76, c76S0, c76S1, c76S2, c76S3, c76S4, c76S5, c76S6, c76S7, c76S8, c76S9, c76S10, c76S11, c76S12, c76S13, c76S14, c76S15, c76S16, c76S17, c76S18, c76S19, c76S20, c76D4, m13]
        refine bdW_built (cells := #[.slice none 0 0, .int .i64 0, .bool false]) (by kernel_rfl) ?_
        simp (disch := first | omega | exact okFill_t rfl | exact okSize_t rfl | exact fun h => h | (simp only [World.size_alloc, World.size_drew, World.size_setCell, size_fill, bytesW]; omega)) only [go_sem, c76, c76S0, c76S1, c76S2, c76S3, c76S4, c76S5, c76S6, c76S7, c76S8, c76S9, c76S10, c76S11, c76S12, c76S13, c76S14, c76S15, c76S16, c76S17, c76S18, c76S19, c76S20, q4]
        exact bad s4 rfl (by rw [hd, if_neg (by simp [hne]), if_neg (by simp [m13])])
    · simp (disch := first | omega | exact okFill_t rfl | exact okSize_t rfl | exact fun h => h | (simp only [World.size_alloc, World.size_drew, World.size_setCell, size_fill, bytesW]; omega)) only [go_sem, c76, c76S0, c76S1, c76S2, c76S3, c76S4, c76S5, c76S6, c76S7, c76S8, c76S9, c76S10, c76S11, c76S12, c76S13, c76S14, c76S15, c76S16, c76S17, c76S18, c76S19, c76S20, m13]
      refine c76draw4 ?_
      by_cases m14 : o.Method = 14
      · simp (disch := first | omega | exact okFill_t rfl | exact okSize_t rfl | exact fun h => h | (simp only [World.size_alloc, World.size_drew, World.size_setCell, size_fill, bytesW]; omega)) only [go_sem, c76, c76S0, c76S1, c76S2, c76S3, c76S4, c76S5, c76S6, c76S7, c76S8, c76S9, c76S10, c76S11, c76S12, c76S13, c76S14, c76S15, c76S16, c76S17, c76S18, c76S19, c76S20, c76D4, m14]
        refine ⟨fun h1 => ?_, fun h1 => ?_⟩
        · obtain ⟨x, rfl⟩ := List.length_eq_one_iff.1 (show s.length = 1 by omega)
          obtain ⟨p, rfl⟩ := h3.ptr (by simp)
          have ep := RdS.int h3 (k := 0) (by simp)
          rw [show p.add 0 = p from rfl, show ([x] : List Int)[0] = x from rfl] at ep
          simp (disch := first | omega | exact okFill_t rfl | exact okSize_t rfl | exact fun h => h | (simp only [World.size_alloc, World.size_drew, World.size_setCell, size_fill, bytesW]; omega)) only [go_sem, c76, c76S0, c76S1, c76S2, c76S3, c76S4, c76S5, c76S6, c76S7, c76S8, c76S9, c76S10, c76S11, c76S12, c76S13, c76S14, c76S15, c76S16, c76S17, c76S18, c76S19, c76S20, c76D4, r4, ho, ep]
          refine ⟨fun e => ?_, fun e => ?_⟩
          · refine bdW_built (cells := #[.slice none 0 0, .int .i64 0, .bool true]) (by kernel_rfl) ?_
            simp (disch := first | omega | exact okFill_t rfl | exact okSize_t rfl | exact fun h => h | (simp only [World.size_alloc, World.size_drew, World.size_setCell, size_fill, bytesW]; omega)) only [go_sem, c76, c76S0, c76S1, c76S2, c76S3, c76S4, c76S5, c76S6, c76S7, c76S8, c76S9, c76S10, c76S11, c76S12, c76S13, c76S14, c76S15, c76S16, c76S17, c76S18, c76S19, c76S20, q4]
            exact res s4 rfl (by rw [hd, if_neg (by simp), if_pos ⟨m14, by rw [e]⟩]) RdS.nil (fun k hk => absurd hk slFoot_none) (fun k hk => absurd hk slFoot_none)
          · refine bdW_built (cells := #[.slice none 0 0, .int .i64 0, .bool false]) (by kernel_rfl) ?_
            simp (disch := first | omega | exact okFill_t rfl | exact okSize_t rfl | exact fun h => h | (simp only [World.size_alloc, World.size_drew, World.size_setCell, size_fill, bytesW]; omega)) only [go_sem, c76, c76S0, c76S1, c76S2, c76S3, c76S4, c76S5, c76S6, c76S7, c76S8, c76S9, c76S10, c76S11, c76S12, c76S13, c76S14, c76S15, c76S16, c76S17, c76S18, c76S19, c76S20, q4]
            exact bad s4 rfl (by rw [hd, if_neg (by simp), if_neg (by simp [e])])
        · have hne : s ≠ [o.Proc] := fun e => h1 (by rw [e]; rfl)
          refine bdW_built (cells := #[.slice none 0 0, .int .i64 0, .bool false]) (by kernel_rfl) ?_
          simp (disch := first | omega | exact okFill_t rfl | exact okSize_t rfl | exact fun h => h | (simp only [World.size_alloc, World.size_drew, World.size_setCell, size_fill, bytesW]; omega)) only [go_sem, c76, c76S0, c76S1, c76S2, c76S3, c76S4, c76S5, c76S6, c76S7, c76S8, c76S9, c76S10, c76S11, c76S12, c76S13, c76S14, c76S15, c76S16, c76S17, c76S18, c76S19, c76S20, q4]
          exact bad s4 rfl (by rw [hd, if_neg (by simp [m13]), if_neg (by simp [hne])])
      · simp (disch := first | omega | exact okFill_t rfl | exact okSize_t rfl | exact fun h => h | (simp only [World.size_alloc, World.size_drew, World.size_setCell, size_fill, bytesW]; omega)) only [go_sem, c76, c76S0, c76S1, c76S2, c76S3, c76S4, c76S5, c76S6, c76S7, c76S8, c76S9, c76S10, c76S11, c76S12, c76S13, c76S14, c76S15, c76S16, c76S17, c76S18, c76S19, c76S20, c76D4, m14]
        refine bdW_built (cells := #[.slice none 0 0, .int .i64 0, .bool false]) (by kernel_rfl) ?_
        simp (disch := first | omega | exact okFill_t rfl | exact okSize_t rfl | exact fun h => h | (simp only [World.size_alloc, World.size_drew, World.size_setCell, size_fill, bytesW]; omega)) only [go_sem, c76, c76S0, c76S1, c76S2, c76S3, c76S4, c76S5, c76S6, c76S7, c76S8, c76S9, c76S10, c76S11, c76S12, c76S13, c76S14, c76S15, c76S16, c76S17, c76S18, c76S19, c76S20, q4]
        exact bad s4 rfl (by rw [hd, if_neg (by simp [m13]), if_neg (by simp [m14])])
  by_cases k5 : o.Kind = 5
  · have hd : doP s o = setP s o := by unfold doP; rw [if_neg k12, if_neg (by simp [k3, k4]), if_pos k5]
    simp (disch := first | omega | exact okFill_t rfl | exact okSize_t rfl | exact fun h => h | (simp only [World.size_alloc, World.size_drew, World.size_setCell, size_fill, bytesW]; omega)) only [go_sem, c76, c76S0, c76S1, c76S2, c76S3, c76S4, c76S5, c76S6, c76S7, c76S8, c76S9, c76S10, c76S11, c76S12, c76S13, c76S14, c76S15, c76S16, c76S17, c76S18, c76S19, c76S20, q3, r3, ho, k5]
    refine c76draw4 ?_
    simp (disch := first | omega | exact okFill_t rfl | exact okSize_t rfl | exact fun h => h | (simp only [World.size_alloc, World.size_drew, World.size_setCell, size_fill, bytesW]; omega)) only [go_sem, c76, c76S0, c76S1, c76S2, c76S3, c76S4, c76S5, c76S6, c76S7, c76S8, c76S9, c76S10, c76S11, c76S12, c76S13, c76S14, c76S15, c76S16, c76S17, c76S18, c76S19, c76S20, c76D4, k5, q4, r4, ho]
    have hso := hs k5
    have tab : ∀ {w3 w4 : World} {n : Int}, St w w4 (fun _ => False) [.blk (w.heap.size + 1) #[.slice none 0 0, .int .i64 0, .bool false] 117, .blk w.heap.size o.enc.toArray 58] [] → setP s o = some (s, n) → StepA w (w4.fill (w.heap.size + 1) #[.slice a s.length c, .int .i64 n, .bool true]) (.slice a s.length c) (doP s o) (.agg #[.slice a s.length c, .int .i64 n, .bool true]) ∧ Below w.heap.size w (w4.fill (w.heap.size + 1) #[.slice a s.length c, .int .i64 n, .bool true]) := fun s5 e =>
      res s5 rfl (hd.trans e) (h.below s5.bel (by decide)) (fun k hk => oldF hk) (fun k hk => oldL hk (Nat.le_refl _))
    have hlen : (s.filter (fun x => !decide (x = o.Arg))).length < s.length ↔ o.Arg ∈ s := by
      rw [List.length_filter_lt_length_iff_exists]
      simp
    refine Ret.mono (without_ok _ s o.Arg w2.drew h3 hl) ?_
    rintro u w5 ⟨own5, b5⟩
    have s5 := s4.call b5
    have q5 := s5.rules 0 rfl
    have r5 := s5.rules 1 rfl
    have h5 := h.below s5.bel (by decide)
    obtain ⟨au, cu, rfl, _⟩ := own_slice own5
    simp (disch := first | omega | exact okFill_t rfl | exact okSize_t rfl | exact fun h => h | (simp only [World.size_alloc, World.size_drew, World.size_setCell, size_fill, bytesW]; omega)) only [go_sem, c76, c76S0, c76S1, c76S2, c76S3, c76S4, c76S5, c76S6, c76S7, c76S8, c76S9, c76S10, c76S12, c76S13, c76S14, c76S15, c76S16, c76S17, c76S18, c76S19, c76S20]
    by_cases hin : o.Arg ∈ s
    · have hlt : (((s.filter (fun x => !decide (x = o.Arg))).length : Nat) : Int) < s.length := by have := hlen.2 hin; omega
      by_cases m12 : o.Method = 12
      · simp (disch := first | omega | exact okFill_t rfl | exact okSize_t rfl | exact fun h => h | (simp only [World.size_alloc, World.size_drew, World.size_setCell, size_fill, bytesW]; omega)) only [go_sem, c76, c76S0, c76S1, c76S2, c76S3, c76S4, c76S5, c76S6, c76S7, c76S8, c76S9, c76S10, c76S11, c76S12, c76S13, c76S14, c76S15, c76S16, c76S17, c76S18, c76S19, c76S20, hlt, m12]
        refine bdW_built (cells := #[.slice a s.length c, .int .i64 1, .bool true]) (by kernel_rfl) ?_
        simp (disch := first | omega | exact okFill_t rfl | exact okSize_t rfl | exact fun h => h | (simp only [World.size_alloc, World.size_drew, World.size_setCell, size_fill, bytesW]; omega)) only [go_sem, c76, c76S0, c76S1, c76S2, c76S3, c76S4, c76S5, c76S6, c76S7, c76S8, c76S9, c76S10, c76S11, c76S12, c76S13, c76S14, c76S15, c76S16, c76S17, c76S18, c76S19, c76S20, q5]
        exact tab (w3 := w5) s5 (by unfold setP; rw [if_pos m12, if_pos hin])
      by_cases m10 : o.Method = 10
      · simp (disch := first | omega | exact okFill_t rfl | exact okSize_t rfl | exact fun h => h | (simp only [World.size_alloc, World.size_drew, World.size_setCell, size_fill, bytesW]; omega)) only [go_sem, c76, c76S0, c76S1, c76S2, c76S3, c76S4, c76S5, c76S6, c76S7, c76S8, c76S9, c76S10, c76S11, c76S12, c76S13, c76S14, c76S15, c76S16, c76S17, c76S18, c76S19, c76S20, hlt, m10]
        refine bdW_built (cells := #[.slice a s.length c, .int .i64 0, .bool true]) (by kernel_rfl) ?_
        simp (disch := first | omega | exact okFill_t rfl | exact okSize_t rfl | exact fun h => h | (simp only [World.size_alloc, World.size_drew, World.size_setCell, size_fill, bytesW]; omega)) only [go_sem, c76, c76S0, c76S1, c76S2, c76S3, c76S4, c76S5, c76S6, c76S7, c76S8, c76S9, c76S10, c76S11, c76S12, c76S13, c76S14, c76S15, c76S16, c76S17, c76S18, c76S19, c76S20, q5]
        exact tab (w3 := w5) s5 (by unfold setP; rw [if_neg m12, if_pos m10, if_pos hin])
      by_cases m11 : o.Method = 11
      · simp (disch := first | omega | exact okFill_t rfl | exact okSize_t rfl | exact fun h => h | (simp only [World.size_alloc, World.size_drew, World.size_setCell, size_fill, bytesW]; omega)) only [go_sem, c76, c76S0, c76S1, c76S2, c76S3, c76S4, c76S5, c76S6, c76S7, c76S8, c76S9, c76S10, c76S11, c76S12, c76S13, c76S14, c76S15, c76S16, c76S17, c76S18, c76S19, c76S20, hlt, m11, r5, ho]
        refine Ret.mono (without_ok _ s o.Arg w5 h5 hl) ?_
        rintro u w6 ⟨own6, b6⟩
        have s6 := s5.call b6
        have q6 := s6.rules 0 rfl
        obtain ⟨a6, c6, rfl, _⟩ := own_slice own6
        simp (disch := first | omega | exact okFill_t rfl | exact okSize_t rfl | exact fun h => h | (simp only [World.size_alloc, World.size_drew, World.size_setCell, size_fill, bytesW]; omega)) only [go_sem, c76, c76S0, c76S1, c76S2, c76S3, c76S4, c76S5, c76S6, c76S7, c76S8, c76S9, c76S10, c76S11, c76S12, c76S13, c76S14, c76S15, c76S16, c76S17, c76S18, c76S19, c76S20]
        refine bdW_built (cells := #[.slice a6 (s.filter (fun x => !decide (x = o.Arg))).length c6, .int .i64 1, .bool true]) (by kernel_rfl) ?_
        simp (disch := first | omega | exact okFill_t rfl | exact okSize_t rfl | exact fun h => h | (simp only [World.size_alloc, World.size_drew, World.size_setCell, size_fill, bytesW]; omega)) only [go_sem, c76, c76S0, c76S1, c76S2, c76S3, c76S4, c76S5, c76S6, c76S7, c76S8, c76S9, c76S10, c76S11, c76S12, c76S13, c76S14, c76S15, c76S16, c76S17, c76S18, c76S19, c76S20, q6]
        have hsz5 : w.heap.size + 2 ≤ w5.heap.size := by have := b5.size; simp only [World.size_drew] at this; omega
        exact res s6 rfl (by rw [hd]; unfold setP; rw [if_neg m12, if_neg m10, if_pos m11, if_pos hin]) (RdS.of_own' own6 (delP s o.Arg) rfl rfl) (fun k hk => .inr (by have := (World.ownsRow.lt own6 k (slFoot_own hk)).1; omega)) (fun k hk => by have := (World.ownsRow.lt own6 k (slFoot_own hk)).1; omega)
      · simp (disch := first | omega | exact okFill_t rfl | exact okSize_t rfl | exact fun h => h | (simp only [World.size_alloc, World.size_drew, World.size_setCell, size_fill, bytesW]; omega)) only [go_sem, c76, c76S0, c76S1, c76S2, c76S3, c76S4, c76S5, c76S6, c76S7, c76S8, c76S9, c76S10, c76S11, c76S12, c76S13, c76S14, c76S15, c76S16, c76S17, c76S18, c76S19, c76S20, hlt, m10, m11, m12]
        refine bdW_built (cells := #[.slice none 0 0, .int .i64 0, .bool false]) (by kernel_rfl) ?_
        simp (disch := first | omega | exact okFill_t rfl | exact okSize_t rfl | exact fun h => h | (simp only [World.size_alloc, World.size_drew, World.size_setCell, size_fill, bytesW]; omega)) only [go_sem, c76, c76S0, c76S1, c76S2, c76S3, c76S4, c76S5, c76S6, c76S7, c76S8, c76S9, c76S10, c76S11, c76S12, c76S13, c76S14, c76S15, c76S16, c76S17, c76S18, c76S19, c76S20, q5]
        exact bad s5 rfl (by rw [hd]; unfold setP; rw [if_neg m12, if_neg m10, if_neg m11])
    · have hlt : ¬ (((s.filter (fun x => !decide (x = o.Arg))).length : Nat) : Int) < s.length := fun e => hin (hlen.1 (by omega))
      by_cases m12 : o.Method = 12
      · simp (disch := first | omega | exact okFill_t rfl | exact okSize_t rfl | exact fun h => h | (simp only [World.size_alloc, World.size_drew, World.size_setCell, size_fill, bytesW]; omega)) only [go_sem, c76, c76S0, c76S1, c76S2, c76S3, c76S4, c76S5, c76S6, c76S7, c76S8, c76S9, c76S10, c76S11, c76S12, c76S13, c76S14, c76S15, c76S16, c76S17, c76S18, c76S19, c76S20, hlt, m12]
        refine bdW_built (cells := #[.slice a s.length c, .int .i64 0, .bool true]) (by kernel_rfl) ?_
        simp (disch := first | omega | exact okFill_t rfl | exact okSize_t rfl | exact fun h => h | (simp only [World.size_alloc, World.size_drew, World.size_setCell, size_fill, bytesW]; omega)) only [go_sem, c76, c76S0, c76S1, c76S2, c76S3, c76S4, c76S5, c76S6, c76S7, c76S8, c76S9, c76S10, c76S11, c76S12, c76S13, c76S14, c76S15, c76S16, c76S17, c76S18, c76S19, c76S20, q5]
        exact tab (w3 := w5) s5 (by unfold setP; rw [if_pos m12, if_neg hin])
      by_cases m10 : o.Method = 10
      · simp (disch := first | omega | exact okFill_t rfl | exact okSize_t rfl | exact fun h => h | (simp only [World.size_alloc, World.size_drew, World.size_setCell, size_fill, bytesW]; omega)) only [go_sem, c76, c76S0, c76S1, c76S2, c76S3, c76S4, c76S5, c76S6, c76S7, c76S8, c76S9, c76S10, c76S11, c76S12, c76S13, c76S14, c76S15, c76S16, c76S17, c76S18, c76S19, c76S20, hlt, m10, r5, ho]
        refine Ret.mono (with_ok _ s o.Arg w5 h5 hl hso hin) ?_
        rintro u w6 ⟨own6, b6⟩
        have s6 := s5.call b6
        have q6 := s6.rules 0 rfl
        obtain ⟨a6, c6, rfl, _⟩ := own_slice own6
        simp (disch := first | omega | exact okFill_t rfl | exact okSize_t rfl | exact fun h => h | (simp only [World.size_alloc, World.size_drew, World.size_setCell, size_fill, bytesW]; omega)) only [go_sem, c76, c76S0, c76S1, c76S2, c76S3, c76S4, c76S5, c76S6, c76S7, c76S8, c76S9, c76S10, c76S11, c76S12, c76S13, c76S14, c76S15, c76S16, c76S17, c76S18, c76S19, c76S20]
        refine bdW_built (cells := #[.slice a6 (insP s o.Arg).length c6, .int .i64 1, .bool true]) (by kernel_rfl) ?_
        simp (disch := first | omega | exact okFill_t rfl | exact okSize_t rfl | exact fun h => h | (simp only [World.size_alloc, World.size_drew, World.size_setCell, size_fill, bytesW]; omega)) only [go_sem, c76, c76S0, c76S1, c76S2, c76S3, c76S4, c76S5, c76S6, c76S7, c76S8, c76S9, c76S10, c76S11, c76S12, c76S13, c76S14, c76S15, c76S16, c76S17, c76S18, c76S19, c76S20, q6]
        have hsz5 : w.heap.size + 2 ≤ w5.heap.size := by have := b5.size; simp only [World.size_drew] at this; omega
        exact res s6 rfl (by rw [hd]; unfold setP; rw [if_neg m12, if_pos m10, if_neg hin]) (RdS.of_own' own6 (insP s o.Arg) rfl rfl) (fun k hk => .inr (by have := (World.ownsRow.lt own6 k (slFoot_own hk)).1; omega)) (fun k hk => by have := (World.ownsRow.lt own6 k (slFoot_own hk)).1; omega)
      by_cases m11 : o.Method = 11
      · simp (disch := first | omega | exact okFill_t rfl | exact okSize_t rfl | exact fun h => h | (simp only [World.size_alloc, World.size_drew, World.size_setCell, size_fill, bytesW]; omega)) only [go_sem, c76, c76S0, c76S1, c76S2, c76S3, c76S4, c76S5, c76S6, c76S7, c76S8, c76S9, c76S10, c76S11, c76S12, c76S13, c76S14, c76S15, c76S16, c76S17, c76S18, c76S19, c76S20, hlt, m11]
        refine bdW_built (cells := #[.slice a s.length c, .int .i64 0, .bool true]) (by kernel_rfl) ?_
        simp (disch := first | omega | exact okFill_t rfl | exact okSize_t rfl | exact fun h => h | (simp only [World.size_alloc, World.size_drew, World.size_setCell, size_fill, bytesW]; omega)) only [go_sem, c76, c76S0, c76S1, c76S2, c76S3, c76S4, c76S5, c76S6, c76S7, c76S8, c76S9, c76S10, c76S11, c76S12, c76S13, c76S14, c76S15, c76S16, c76S17, c76S18, c76S19, c76S20, q5]
        exact tab (w3 := w5) s5 (by unfold setP; rw [if_neg m12, if_neg m10, if_pos m11, if_neg hin])
      · simp (disch := first | omega | exact okFill_t rfl | exact okSize_t rfl | exact fun h => h | (simp only [World.size_alloc, World.size_drew, World.size_setCell, size_fill, bytesW]; omega)) only [go_sem, c76, c76S0, c76S1, c76S2, c76S3, c76S4, c76S5, c76S6, c76S7, c76S8, c76S9, c76S10, c76S11, c76S12, c76S13, c76S14, c76S15, c76S16, c76S17, c76S18, c76S19, c76S20, hlt, m10, m11, m12]
        refine bdW_built (cells := #[.slice none 0 0, .int .i64 0, .bool false]) (by kernel_rfl) ?_
        simp (disch := first | omega | exact okFill_t rfl | exact okSize_t rfl | exact fun h => h | (simp only [World.size_alloc, World.size_drew, World.size_setCell, size_fill, bytesW]; omega)) only [go_sem, c76, c76S0, c76S1, c76S2, c76S3, c76S4, c76S5, c76S6, c76S7, c76S8, c76S9, c76S10, c76S11, c76S12, c76S13, c76S14, c76S15, c76S16, c76S17, c76S18, c76S19, c76S20, q5]
        exact bad s5 rfl (by rw [hd]; unfold setP; rw [if_neg m12, if_neg m10, if_neg m11])
  · have hd : doP s o = none := by unfold doP; rw [if_neg k12, if_neg (by simp [k3, k4]), if_neg k5, if_neg k6]
    simp (disch := first | omega | exact okFill_t rfl | exact okSize_t rfl | exact fun h => h | (simp only [World.size_alloc, World.size_drew, World.size_setCell, size_fill, bytesW]; omega)) only [go_sem, c76, c76S0, c76S1, c76S2, c76S3, c76S4, c76S5, c76S6, c76S7, c76S8, c76S9, c76S10, c76S11, c76S12, c76S13, c76S14, c76S15, c76S16, c76S17, c76S18, c76S19, c76S20, q3, r3, ho, k1, k2, k3, k4, k5, k6]
    refine c76draw4 ?_
    simp (disch := first | omega | exact okFill_t rfl | exact okSize_t rfl | exact fun h => h | (simp only [World.size_alloc, World.size_drew, World.size_setCell, size_fill, bytesW]; omega)) only [go_sem, c76, c76S0, c76S1, c76S2, c76S3, c76S4, c76S5, c76S6, c76S7, c76S8, c76S9, c76S10, c76S11, c76S12, c76S13, c76S14, c76S15, c76S16, c76S17, c76S18, c76S19, c76S20, c76D4, k3, k4, k5, k6]
    refine bdW_built (cells := #[.slice none 0 0, .int .i64 0, .bool false]) (by kernel_rfl) ?_
    simp (disch := first | omega | exact okFill_t rfl | exact okSize_t rfl | exact fun h => h | (simp only [World.size_alloc, World.size_drew, World.size_setCell, size_fill, bytesW]; omega)) only [go_sem, c76, c76S0, c76S1, c76S2, c76S3, c76S4, c76S5, c76S6, c76S7, c76S8, c76S9, c76S10, c76S11, c76S12, c76S13, c76S14, c76S15, c76S16, c76S17, c76S18, c76S19, c76S20, q4]
    exact bad s4 rfl hd
end Go.Proofs.Ytbeoedgoikcbpaa

namespace Go.Proofs.Ytbeoedgoikcbpaa
set_option linter.unusedSimpArgs false
set_option linter.unusedVariables false
set_option maxRecDepth 100000
open Go Go.Ann Go.RowKit
def before (a b : OpT) : Bool := a.Done && decide (a.Return < b.Invoke)
theorem rbefore_ok (a b : OpT) (w : World) : Ret Try.prog 53 [.agg a.enc.toArray, .agg b.enc.toArray] w fun v w' => v = .bool (before a b) ∧ Below w.heap.size w w' := by
  refine ent53 _ _ _ _ ?_
  have ha := a.at; have hb := b.at
  simp (disch := first | omega | exact okFill_t rfl | exact okSize_t rfl | exact fun h => h | (simp only [World.size_alloc, World.size_drew, World.size_setCell, size_fill, bytesW]; omega)) only [go_sem, c53, ha, hb]
  unfold before
  refine ⟨fun h => ?_, fun h => ?_⟩
  · rw [h]; exact ⟨by simp, by (repeat' (first | with_reducible exact Below.refl _ _ | with_reducible assumption | (with_reducible refine Below.drew ?_) | (with_reducible refine Below.alloc ?_ ?_ _) | (with_reducible refine Below.setCell ?_ ?_ _) | (with_reducible refine Below.fill ?_ ?_) | (with_reducible refine Below.via (by assumption) ?_ ?_) | omega | (simp only [World.size_alloc, World.size_drew, World.size_setCell, size_fill, bytesW]; omega)))⟩
  · rw [h]; exact ⟨by simp, by (repeat' (first | with_reducible exact Below.refl _ _ | with_reducible assumption | (with_reducible refine Below.drew ?_) | (with_reducible refine Below.alloc ?_ ?_ _) | (with_reducible refine Below.setCell ?_ ?_ _) | (with_reducible refine Below.fill ?_ ?_) | (with_reducible refine Below.via (by assumption) ?_ ?_) | omega | (simp only [World.size_alloc, World.size_drew, World.size_setCell, size_fill, bytesW]; omega)))⟩
theorem before_ok (a b : OpT) (w : World) : Ret Try.prog 65 [.agg a.enc.toArray, .agg b.enc.toArray] w fun v w' => v = .bool (before a b) ∧ Below w.heap.size w w' := by
  refine ent65 _ _ _ _ ?_
  have ha := a.at; have hb := b.at
  simp (disch := first | omega | exact okFill_t rfl | exact okSize_t rfl | exact fun h => h | (simp only [World.size_alloc, World.size_drew, World.size_setCell, size_fill, bytesW]; omega)) only [go_sem, c65, ha, hb]
  unfold before
  refine ⟨fun h => ?_, fun h => ?_⟩
  · rw [h]; exact ⟨by simp, by (repeat' (first | with_reducible exact Below.refl _ _ | with_reducible assumption | (with_reducible refine Below.drew ?_) | (with_reducible refine Below.alloc ?_ ?_ _) | (with_reducible refine Below.setCell ?_ ?_ _) | (with_reducible refine Below.fill ?_ ?_) | (with_reducible refine Below.via (by assumption) ?_ ?_) | omega | (simp only [World.size_alloc, World.size_drew, World.size_setCell, size_fill, bytesW]; omega)))⟩
  · rw [h]; exact ⟨by simp, by (repeat' (first | with_reducible exact Below.refl _ _ | with_reducible assumption | (with_reducible refine Below.drew ?_) | (with_reducible refine Below.alloc ?_ ?_ _) | (with_reducible refine Below.setCell ?_ ?_ _) | (with_reducible refine Below.fill ?_ ?_) | (with_reducible refine Below.via (by assumption) ?_ ?_) | omega | (simp only [World.size_alloc, World.size_drew, World.size_setCell, size_fill, bytesW]; omega)))⟩
end Go.Proofs.Ytbeoedgoikcbpaa

namespace Go.Proofs.Ytbeoedgoikcbpaa
set_option linter.unusedSimpArgs false
set_option linter.unusedVariables false
set_option maxRecDepth 100000
open Go Go.Ann Go.RowKit
theorem rstep_ok (v : Value) (s : List Int) (o : OpT) (w : World) (h : RdS w 1 intE v s) (hl : s.length ≤ 1000000) (hs : o.Kind = 5 → s.Pairwise (· < ·)) :
    Ret Try.prog 49 [v, .agg o.enc.toArray] w fun u w' => (∃ t ok, u = .tuple #[t, .bool ok] ∧ match stepP s o with
      | none => ok = false
      | some s' => ok = true ∧ RdS w' 1 intE t s' ∧ ∀ k, slFoot t k → slFoot v k ∨ w.heap.size ≤ k) ∧ Below w.heap.size w w' := by
  refine ent49 _ _ _ _ ?_
  have ho := o.at
  have hw1 : Below w.heap.size w (w.alloc (.cells o.enc.toArray 58)) := (Below.refl _ w).alloc (Nat.le_refl _) _
  simp (disch := first | omega | exact okFill_t rfl | exact okSize_t rfl | exact fun h => h | (simp only [World.size_alloc, World.size_drew, World.size_setCell, size_fill, bytesW]; omega)) only [go_sem, c49, c49S0]
  refine Ret.mono (rdo_ok v s o _ (h.below hw1 (by decide)) hl hs) ?_
  rintro _ w2 ⟨⟨t, a, ok, rfl, ⟨ta, tn, tc, rfl⟩, hm⟩, b2⟩
  have bb := Below.next hw1 b2
  have hB2 : Blk w2 w.heap.size o.enc.toArray 58 := Blk.new.below b2 Blk.new.lt
  have s2 := ((((St.start (W0 := w)).box o.enc.toArray 58).call b2)).box #[.slice ta tn tc, .int .i64 a, .bool ok] 117
  have r2 := s2.rules 1 rfl
  have q2 := s2.rules 0 rfl
  have lt2 : w.heap.size < w2.heap.size := hB2.lt
  simp (disch := first | omega | exact okFill_t rfl | exact okSize_t rfl | exact fun h => h | (simp only [World.size_alloc, World.size_drew, World.size_setCell, size_fill, bytesW]; omega)) only [go_sem, c49, c49S0, q2]
  cases hd : doP s o with
  | none =>
    rw [hd] at hm
    have hm : ok = false := hm
    subst hm
    have e : stepP s o = none := by unfold stepP; rw [hd]
    simp (disch := first | omega | exact okFill_t rfl | exact okSize_t rfl | exact fun h => h | (simp only [World.size_alloc, World.size_drew, World.size_setCell, size_fill, bytesW]; omega)) only [go_sem, c49, c49S0, c49S1, r2, q2, ho]
    exact ⟨⟨_, _, rfl, by rw [e]⟩, s2.bel⟩
  | some p =>
    obtain ⟨s', n⟩ := p
    rw [hd] at hm
    obtain ⟨rfl, rfl, h3, f3⟩ := hm
    have f3' : ∀ k, slFoot (.slice ta tn tc) k → slFoot v k ∨ w.heap.size ≤ k := fun k hk => (f3 k hk).imp id fun h => Nat.le_trans (by simp) h
    have h4 := h3.below ((Below.refl _ w2).alloc (Nat.le_refl _) (.cells #[.slice ta tn tc, .int .i64 a, .bool true] 117)) (by decide)
    cases hdn : o.Done with
    | false =>
      have e : stepP s o = some s' := by unfold stepP; rw [hd]; simp [hdn]
      simp (disch := first | omega | exact okFill_t rfl | exact okSize_t rfl | exact fun h => h | (simp only [World.size_alloc, World.size_drew, World.size_setCell, size_fill, bytesW]; omega)) only [go_sem, c49, c49S0, c49S1, r2, q2, ho, hdn]
      exact ⟨⟨_, _, rfl, by rw [e]; exact ⟨rfl, h4, f3'⟩⟩, s2.bel⟩
    | true =>
      simp (disch := first | omega | exact okFill_t rfl | exact okSize_t rfl | exact fun h => h | (simp only [World.size_alloc, World.size_drew, World.size_setCell, size_fill, bytesW]; omega)) only [go_sem, c49, c49S0, c49S1, r2, q2, ho, hdn]
      refine ⟨fun hne => ⟨⟨_, _, rfl, ?_⟩, s2.bel⟩, fun heq => ⟨⟨_, _, rfl, ?_⟩, s2.bel⟩⟩
      · rw [show stepP s o = none by unfold stepP; rw [hd]; simp [hdn, hne]]
      · rw [show stepP s o = some s' by unfold stepP; rw [hd]; simp [hdn, heq]]
        exact ⟨rfl, h4, f3'⟩
end Go.Proofs.Ytbeoedgoikcbpaa

namespace Go.Proofs.Ytbeoedgoikcbpaa
set_option linter.unusedSimpArgs false
set_option linter.unusedVariables false
set_option maxRecDepth 100000
open Go Go.Ann Go.RowKit
def maskN : List Bool → Nat
  | [] => 0
  | b :: l => b.toNat + 2 * maskN l
theorem maskN_bit : ∀ (l : List Bool) (i : Nat), (maskN l).testBit i = l.getD i false
  | [], i => by simp [maskN]
  | b :: l, 0 => by
    rw [maskN, Nat.testBit_zero]
    cases b <;> simp [Nat.add_mod]
  | b :: l, i + 1 => by
    rw [maskN, Nat.testBit_succ, show (b.toNat + 2 * maskN l) / 2 = maskN l by cases b <;> simp <;> omega, maskN_bit l i]
    rfl
theorem maskN_lt : ∀ l : List Bool, maskN l < 2 ^ l.length
  | [] => by simp [maskN]
  | b :: l => by
    have := maskN_lt l
    rw [maskN, List.length_cons, Nat.pow_succ]
    cases b <;> simp <;> omega
theorem maskN_inj : ∀ {a b : List Bool}, a.length = b.length → maskN a = maskN b → a = b
  | [], [], _, _ => rfl
  | x :: a, y :: b, hl, h => by
    simp only [maskN] at h
    have h1 : x = y := by cases x <;> cases y <;> simp at h ⊢ <;> omega
    subst h1
    rw [maskN_inj (a := a) (b := b) (by simpa using hl) (by omega)]
theorem maskN_none (n : Nat) : maskN (List.replicate n false) = 0 := by
  induction n with
  | zero => rfl
  | succ n ih => rw [List.replicate_succ, maskN, ih]; rfl
theorem getD_set (l : List Bool) (i j : Nat) : (l.set i true).getD j false = (l.getD j false || (decide (i = j) && decide (i < l.length))) := by
  simp only [List.getD_eq_getElem?_getD, List.getElem?_set]
  by_cases h : i = j
  · subst h
    by_cases hl : i < l.length
    · simp [hl]
    · simp [hl]
  · simp [h]
theorem maskN_set {l : List Bool} {i : Nat} (hi : i < l.length) : maskN l ||| 2 ^ i = maskN (l.set i true) := by
  refine Nat.eq_of_testBit_eq fun j => ?_
  rw [Nat.testBit_or, maskN_bit, maskN_bit, getD_set, Nat.testBit_two_pow]
  simp [hi]
theorem ofInt_nat {x : Nat} (h : x < 4294967296) : (BitVec.ofInt 32 (x : Int)).toNat = x := by
  rw [BitVec.ofInt_natCast, BitVec.toNat_ofNat]; exact Nat.mod_eq_of_lt (by omega)
theorem wrap_u32 (n : Int) : IntKind.u32.wrap n = n % 4294967296 := by
  simp [IntKind.wrap, IntKind.signed, IntKind.bits]
theorem or_u32 {x y : Nat} (hx : x < 4294967296) (hy : y < 4294967296) : bits .or .u32 (x : Int) (y : Int) = ((x ||| y : Nat) : Int) := by
  have e : (BitVec.ofInt 32 (x : Int) ||| BitVec.ofInt 32 (y : Int)).toNat = x ||| y := by rw [BitVec.toNat_or, ofInt_nat hx, ofInt_nat hy]
  show IntKind.u32.wrap (((BitVec.ofInt 32 (x : Int) ||| BitVec.ofInt 32 (y : Int)).toNat : Nat) : Int) = _
  have : x ||| y < 2 ^ 32 := Nat.or_lt_two_pow (by omega) (by omega)
  rw [e, wrap_u32]; omega
theorem and1_u32 {x : Nat} (hx : x < 4294967296) : bits .and .u32 (x : Int) 1 = ((x % 2 : Nat) : Int) := by
  have e : (BitVec.ofInt 32 (x : Int) &&& BitVec.ofInt 32 1).toNat = x % 2 := by
    rw [BitVec.toNat_and, ofInt_nat hx, show (BitVec.ofInt 32 1).toNat = 1 by decide, Nat.and_one_is_mod]
  show IntKind.u32.wrap (((BitVec.ofInt 32 (x : Int) &&& BitVec.ofInt 32 1).toNat : Nat) : Int) = _
  rw [e, wrap_u32]; omega
theorem mask_bit {d : List Bool} {i : Nat} (h32 : d.length ≤ 32) : bits .and .u32 ((maskN d : Int) / 2 ^ i) 1 = if d.getD i false = true then 1 else 0 := by
  have h1 := maskN_lt d
  have hp : 2 ^ d.length ≤ 4294967296 := by rw [show (4294967296 : Nat) = 2 ^ 32 by decide]; exact Nat.pow_le_pow_right (by decide) h32
  have e : (maskN d : Int) / 2 ^ i = ((maskN d / 2 ^ i : Nat) : Int) := by norm_cast
  rw [e, and1_u32 (Nat.lt_of_le_of_lt (Nat.div_le_self _ _) (by omega))]
  have := maskN_bit d i
  rw [← this, ← Nat.shiftRight_eq_div_pow]
  unfold Nat.testBit
  rw [Nat.and_comm, Nat.and_one_is_mod]
  have h2 := Nat.mod_two_eq_zero_or_one (maskN d >>> i)
  rcases h2 with h2 | h2 <;> rw [h2] <;> rfl
end Go.Proofs.Ytbeoedgoikcbpaa

namespace Go.Proofs.Ytbeoedgoikcbpaa
set_option linter.unusedSimpArgs false
set_option linter.unusedVariables false
set_option maxRecDepth 100000
open Go Go.Ann Go.RowKit
abbrev Spot := List Bool × List Int
def mayP (l : List OpT) (d : List Bool) (i : Nat) (o : OpT) : Bool := !(d.getD i false) && ((l.map fun p => before p o).zip d).all (fun p => p.2 || !p.1)
def fullP (l : List OpT) (d : List Bool) : Bool := ((l.map fun o => o.Done).zip d).all (fun p => p.2 || !p.1)
def addP (t : List Spot) (p : Spot) : List Spot := if p ∈ t then t else t ++ [p]
def goP (l : List OpT) (p : Spot) (t : List Spot) (k : Nat) : List Spot :=
  match l[k]? with
  | none => t
  | some o => if mayP l p.1 k o then (match stepP p.2 o with
    | some s => addP t (p.1.set k true, s)
    | none => t) else t
def roundK (l : List OpT) (p : Spot) (t : List Spot) : Nat → List Spot
  | 0 => t
  | k + 1 => goP l p (roundK l p t k) k
def bfsN (l : List OpT) (t0 : List Spot) : Nat → List Spot
  | 0 => t0
  | i + 1 => match (bfsN l t0 i)[i]? with
    | some p => roundK l p (bfsN l t0 i) l.length
    | none => bfsN l t0 i
theorem addP_pre (t : List Spot) (p : Spot) : t <+: addP t p := by
  unfold addP; split
  · exact List.prefix_rfl
  · exact List.prefix_append _ _
theorem addP_len (t : List Spot) (p : Spot) : (addP t p).length ≤ t.length + 1 := by
  unfold addP; split <;> simp
theorem goP_pre (l : List OpT) (p : Spot) (t : List Spot) (k : Nat) : t <+: goP l p t k := by
  unfold goP
  split
  · exact List.prefix_rfl
  · split
    · split
      · exact addP_pre _ _
      · exact List.prefix_rfl
    · exact List.prefix_rfl
theorem goP_len (l : List OpT) (p : Spot) (t : List Spot) (k : Nat) : (goP l p t k).length ≤ t.length + 1 := by
  unfold goP
  split
  · omega
  · split
    · split
      · exact addP_len _ _
      · omega
    · omega
theorem roundK_pre (l : List OpT) (p : Spot) (t : List Spot) : ∀ k, t <+: roundK l p t k
  | 0 => List.prefix_rfl
  | k + 1 => (roundK_pre l p t k).trans (goP_pre _ _ _ _)
theorem roundK_len (l : List OpT) (p : Spot) (t : List Spot) : ∀ k, (roundK l p t k).length ≤ t.length + k
  | 0 => Nat.le_refl _
  | k + 1 => by
    have h1 := roundK_len l p t k
    have h2 := goP_len l p (roundK l p t k) k
    rw [roundK]; omega
theorem bfsN_step (l : List OpT) (t0 : List Spot) (i : Nat) : bfsN l t0 i <+: bfsN l t0 (i + 1) := by
  rw [bfsN]; split
  · exact roundK_pre _ _ _ _
  · exact List.prefix_rfl
theorem bfsN_mono (l : List OpT) (t0 : List Spot) {i j : Nat} (h : i ≤ j) : bfsN l t0 i <+: bfsN l t0 j := by
  induction h with
  | refl => exact List.prefix_rfl
  | step _ ih => exact ih.trans (bfsN_step _ _ _)
theorem bfsN_closed {l : List OpT} {t0 : List Spot} {i j : Nat} (h : i ≤ j) (hc : (bfsN l t0 i).length ≤ i) : bfsN l t0 j = bfsN l t0 i := by
  induction h with
  | refl => rfl
  | step h ih =>
    rename_i m
    have hm : i ≤ m := h
    rw [bfsN, ih, List.getElem?_eq_none (by omega)]
def SearchR (l : List OpT) (t0 : List Spot) (b : Int) : Option (List Spot) → Prop
  | none => ∃ N, b < ((bfsN l t0 N).length : Int)
  | some T => (∃ N, bfsN l t0 N = T ∧ T.length ≤ N) ∧ (T.length : Int) ≤ b
theorem SearchR.one {l : List OpT} {t0 : List Spot} {b : Int} {r r' : Option (List Spot)} (h : SearchR l t0 b r) (k : SearchR l t0 b r') : r = r' := by
  have key : ∀ {T : List Spot}, SearchR l t0 b none → SearchR l t0 b (some T) → False := by
    rintro T ⟨N, hN⟩ ⟨⟨M, rfl, hM⟩, hb⟩
    rcases Nat.le_total N M with hle | hle
    · have := (bfsN_mono l t0 hle).length_le; omega
    · rw [bfsN_closed hle hM] at hN; omega
  cases r with
  | none => cases r' with
    | none => rfl
    | some T => exact (key h k).elim
  | some T => cases r' with
    | none => exact (key k h).elim
    | some T' =>
      obtain ⟨⟨N, h1, h2⟩, _⟩ := h
      obtain ⟨⟨M, k1, k2⟩, _⟩ := k
      subst h1 k1
      rcases Nat.le_total N M with hle | hle
      · rw [bfsN_closed hle h2]
      · rw [bfsN_closed hle k2]
structure Good (K : Int) (M n : Nat) (p : Spot) : Prop where
  len : p.1.length = n
  ok : Ok64 p.2
  sz : p.2.length ≤ M + p.1.count true
  ris : K = 5 → p.2.Pairwise (· < ·)
theorem Good.okS {K : Int} {M n : Nat} {p : Spot} (h : Good K M n p) (hm : M + n ≤ 1000000) : OkS p.2 := by
  refine ⟨h.ok, ?_⟩
  have h1 := h.sz
  have h2 := List.count_le_length (a := true) (l := p.1)
  rw [h.len] at h2
  omega
theorem wrap_ok (n : Int) : I64 (IntKind.i64.wrap n) := by
  constructor <;> simp [IntKind.wrap, IntKind.signed, IntKind.bits] <;> omega
theorem kOk_i64 {n : Int} (h : kOk .i64 n) : I64 n := by
  unfold kOk Lit.wf at h
  simp [IntKind.min, IntKind.max, IntKind.signed, IntKind.bits] at h
  exact ⟨by omega, by omega⟩
theorem numP_ok {x : Int} {o : OpT} {s : List Int} {n : Int} (hw : o.wf) (hx : I64 x) (h : numP x o = some (s, n)) : Ok64 s ∧ s.length = 1 := by
  have h1 : ∀ y : Int, I64 y → Ok64 [y] ∧ [y].length = 1 := fun y hy => ⟨fun z hz => by rw [List.mem_singleton] at hz; subst hz; exact hy, rfl⟩
  obtain ⟨_, _, _, _, _, ha, hs, _⟩ := hw
  unfold numP at h
  repeat' split at h
  all_goals first | (cases h; done) | skip
  all_goals simp only [Option.some.injEq, Prod.mk.injEq] at h; obtain ⟨rfl, _⟩ := h
  · exact h1 _ hx
  · exact h1 _ (kOk_i64 ha)
  · exact h1 _ (kOk_i64 hs)
  · exact h1 _ hx
  · exact h1 _ (wrap_ok _)
  · exact h1 _ (wrap_ok _)
theorem listP_ok {s : List Int} {o : OpT} {t : List Int} {n : Int} (hw : o.wf) (hx : Ok64 s) (h : listP s o = some (t, n)) : Ok64 t ∧ t.length ≤ s.length + 1 := by
  obtain ⟨_, _, _, _, _, ha, hs, _⟩ := hw
  unfold listP at h
  repeat' split at h
  all_goals first | (cases h; done) | skip
  all_goals simp only [Option.some.injEq, Prod.mk.injEq] at h; obtain ⟨rfl, _⟩ := h
  · refine ⟨fun z hz => ?_, by simp⟩
    rcases List.mem_append.1 hz with hz | hz
    · exact hx z hz
    · rw [List.mem_singleton] at hz; subst hz; exact kOk_i64 ha
  · exact ⟨fun z hz => (by cases hz), by simp⟩
  · exact ⟨fun z hz => hx z (List.mem_cons_of_mem _ hz), by simp; omega⟩
  · exact ⟨fun z hz => (by cases hz), by simp⟩
  · exact ⟨fun z hz => hx z ((List.dropLast_subset _) hz), by simp; omega⟩
theorem setP_ok {s : List Int} {o : OpT} {t : List Int} {n : Int} (hw : o.wf) (hx : Ok64 s) (hs : s.Pairwise (· < ·)) (h : setP s o = some (t, n)) : Ok64 t ∧ t.length ≤ s.length + 1 ∧ t.Pairwise (· < ·) := by
  obtain ⟨_, _, _, _, _, ha, _, _⟩ := hw
  unfold setP at h
  repeat' split at h
  all_goals first | (cases h; done) | skip
  all_goals simp only [Option.some.injEq, Prod.mk.injEq] at h; obtain ⟨rfl, _⟩ := h
  · exact ⟨hx, by omega, hs⟩
  · exact ⟨hx, by omega, hs⟩
  · exact ⟨hx, by omega, hs⟩
  · rename_i hni _
    refine ⟨fun z hz => ?_, by unfold insP; simp; omega, insP_sorted hs hni⟩
    rcases insP_mem.1 hz with e | hz
    · subst e; exact kOk_i64 ha
    · exact hx z hz
  · exact ⟨fun z hz => hx z ((List.mem_filter.1 hz).1), by have := List.length_filter_le (fun y => !decide (y = o.Arg)) s; unfold delP; omega, delP_sorted hs⟩
  · exact ⟨hx, by omega, hs⟩
theorem stepP_ok {s : List Int} {o : OpT} {t : List Int} (hw : o.wf) (hx : Ok64 s) (hs : o.Kind = 5 → s.Pairwise (· < ·)) (h : stepP s o = some t) : Ok64 t ∧ t.length ≤ s.length + 1 ∧ (o.Kind = 5 → t.Pairwise (· < ·)) := by
  unfold stepP at h
  split at h
  case h_2 => cases h
  rename_i t' n hd
  have e : t' = t := by
    split at h
    · cases h
    · simpa using h
  subst e
  unfold doP at hd
  split at hd
  · rename_i hk
    have h5 : o.Kind ≠ 5 := by omega
    unfold numL at hd
    split at hd
    · obtain ⟨h1, h2⟩ := numP_ok hw (hx _ (List.mem_singleton.2 rfl)) hd
      exact ⟨h1, by omega, fun e => absurd e h5⟩
    · cases hd
  split at hd
  · rename_i hk
    have h5 : o.Kind ≠ 5 := by omega
    obtain ⟨h1, h2⟩ := listP_ok hw hx hd
    exact ⟨h1, h2, fun e => absurd e h5⟩
  split at hd
  · rename_i hk
    obtain ⟨h1, h2, h3⟩ := setP_ok hw hx (hs hk) hd
    exact ⟨h1, h2, fun _ => h3⟩
  split at hd
  · rename_i hk
    have h5 : o.Kind ≠ 5 := by omega
    repeat' split at hd
    all_goals first | (cases hd; done) | skip
    all_goals simp only [Option.some.injEq, Prod.mk.injEq] at hd; obtain ⟨rfl, _⟩ := hd
    · obtain ⟨_, hp, _⟩ := hw
      exact ⟨fun z hz => by rw [List.mem_singleton] at hz; subst hz; exact kOk_i64 hp, by simp, fun e => absurd e h5⟩
    · exact ⟨fun z hz => (by cases hz), by simp, fun e => absurd e h5⟩
  · cases hd
theorem count_set {d : List Bool} {k : Nat} (hk : k < d.length) (h : d.getD k false = false) : (d.set k true).count true = d.count true + 1 := by
  induction d generalizing k with
  | nil => simp at hk
  | cons b d ih =>
    cases k with
    | zero =>
      simp at h; subst h
      simp
    | succ k =>
      rw [List.set_cons_succ, List.count_cons, List.count_cons, ih (by simpa using hk) (by simpa using h)]
      omega
theorem Good.go {K : Int} {M : Nat} {l : List OpT} {p : Spot} {k : Nat} {s : List Int} (h : Good K M l.length p) (hk : k < l.length) (ha : ∀ o ∈ l, o.Kind = K) (hw : ∀ o ∈ l, o.wf) (hm : mayP l p.1 k l[k] = true) (hs : stepP p.2 l[k] = some s) : Good K M l.length (p.1.set k true, s) := by
  have hmem := List.getElem_mem hk
  obtain ⟨h1, h2, h3⟩ := stepP_ok (hw _ hmem) h.ok (fun e => h.ris ((ha _ hmem).symm.trans e)) hs
  have hf : p.1.getD k false = false := by
    unfold mayP at hm
    rw [Bool.and_eq_true] at hm
    simpa using hm.1
  refine ⟨by simpa using h.len, h1, ?_, fun e => h3 ((ha _ hmem).trans e)⟩
  have := h.sz
  rw [count_set (by rw [h.len]; exact hk) hf]
  simp only
  omega
end Go.Proofs.Ytbeoedgoikcbpaa

namespace Go.Proofs.Ytbeoedgoikcbpaa
set_option linter.unusedSimpArgs false
set_option linter.unusedVariables false
set_option maxRecDepth 100000
open Go Go.Ann Go.RowKit
theorem own_mono {w : World} {B B' e sz n : Nat} {v : Value} {xs : List Value} (h : w.ownsRow B e sz v n xs) (hb : B' ≤ B) : w.ownsRow B' e sz v n xs := by
  refine ⟨h.1, ?_⟩
  rcases h.2 with h | ⟨g, c, cur, e1, hg, h2⟩
  · exact .inl h
  · exact .inr ⟨g, c, cur, e1, Nat.le_trans hb hg, h2⟩
theorem res_mono {w : World} {B B' : Nat} {r : Res} (h : r.ok w B) (hb : B' ≤ B) : r.ok w B' := by
  cases r with
  | blk b cs t => exact ⟨h.1, Nat.le_trans hb h.2⟩
  | row v e sz n xs => exact own_mono h hb
  | obj b o => exact ⟨h.1, Nat.le_trans hb h.2⟩
theorem St.join {W0 w w' : World} {F : Nat → Prop} {L L' : List Res} {I : List Inv} (h : St W0 w F L I) (k : St w w' (fun _ => False) L' []) : St W0 w' F (L' ++ L) I := by
  have h' := h.call k.bel
  refine ⟨h'.bel, h'.foot, fun r hr => ?_, ?_, fun a ha => ⟨(h'.inv a ha).1, fun j hj => ⟨((h'.inv a ha).2 j hj).1, ((h'.inv a ha).2 j hj).2.1, fun r hr e => ?_⟩⟩⟩
  · rcases List.mem_append.1 hr with hr | hr
    · refine ⟨res_mono (k.res r hr).1 h.size, fun j hj hF => ?_⟩
      have := ((k.res r hr).1.lt j hj).1
      have := (h.foot j hF).2
      omega
    · exact h'.res r hr
  · rw [List.filterMap_append]
    refine List.nodup_append.2 ⟨k.nd, h.nd, fun a ha b hb e => ?_⟩
    subst e
    obtain ⟨r, hr, hra⟩ := List.mem_filterMap.1 ha
    obtain ⟨q, hq, hqa⟩ := List.mem_filterMap.1 hb
    have := ((k.res r hr).1.lt a hra).1
    have := ((h.res q hq).1.lt a hqa).2
    omega
  · rcases List.mem_append.1 hr with hr | hr
    · have := ((k.res r hr).1.lt j e).1
      have := ((h.inv a ha).2 j hj).1
      omega
    · exact ((h'.inv a ha).2 j hj).2.2 r hr e
def Inv.vs (D : List VS) : Inv := ⟨fun w => ∀ p ∈ D, RdS w 1 intE p.1 p.2, fun k => ∃ p ∈ D, slFoot p.1 k, fun w w' h hk p hp => RdS.loc (h p hp) fun k hf => hk k ⟨p, hp, hf⟩⟩
abbrev PS := Value × Nat × List Int
end Go.Proofs.Ytbeoedgoikcbpaa

namespace Go.Proofs.Ytbeoedgoikcbpaa
set_option linter.unusedSimpArgs false
set_option linter.unusedVariables false
set_option maxRecDepth 100000
open Go Go.Ann Go.RowKit
theorem wrap_u64_nat {n : Nat} (h : n < 18446744073709551616) : IntKind.u64.wrap (n : Int) = n := wrap_u64_id _ (by omega) (by omega)
end Go.Proofs.Ytbeoedgoikcbpaa

namespace Go.Proofs.Ytbeoedgoikcbpaa
set_option linter.unusedSimpArgs false
set_option linter.unusedVariables false
set_option maxRecDepth 100000
open Go Go.Ann Go.RowKit
abbrev VSpot := Value × Spot
def ps (q : VSpot) : PS := (q.1, maskN q.2.1, q.2.2)
end Go.Proofs.Ytbeoedgoikcbpaa

namespace Go.Proofs.Ytbeoedgoikcbpaa
set_option linter.unusedSimpArgs false
set_option linter.unusedVariables false
set_option maxRecDepth 100000
open Go Go.Ann Go.RowKit
def startP (n : Nat) (U : List (List Int)) : List Spot := U.map fun s => (List.replicate n false, s)
theorem own_ptr {w : World} {B e sz n m c : Nat} {a : Option Addr} {xs : List Value} (h : w.ownsRow B e sz (.slice a n c) m xs) (h0 : 0 < m) : ∃ g, a = some ⟨g, 0, none⟩ := by
  rcases h.2 with ⟨_, h1⟩ | ⟨g, cap, cur, e, _⟩
  · omega
  · simp only [Value.slice.injEq] at e
    exact ⟨g, e.1⟩
theorem St.keepSub {W0 w : World} {F : Nat → Prop} {L : List Res} {I : List Inv} (h : St W0 w F L I) {b : Inv} (hb : b ∈ I) (a : Inv) (ha : a.holds w) (hf : ∀ k, a.foot k → b.foot k) : St W0 w F L (a :: I) :=
  h.keep a ha fun k hk => (h.inv b hb).2 k (hf k hk)
def SearchV (w' : World) (l : List OpT) (E : List (List Int)) (U0 : List (List Int)) (r : Option (List Spot)) (u : Value) : Prop :=
  match r with
  | none => u = .tuple #[.agg #[.slice none 0 0, .slice none 0 0, .int .i64 0], .int .i64 35]
  | some T => ∃ uv xv U X, u = .tuple #[.agg #[uv, xv, .int .i64 T.length], .int .i64 0] ∧ RowS w' uv U ∧ U.map Prod.snd = U0 ∧ RowS w' xv X ∧ Uniq ((T.filter fun p => fullP l p.1).map Prod.snd) (X.map Prod.snd)
theorem nodup_le {α : Type} [DecidableEq α] : ∀ {u l : List α}, u.Nodup → (∀ x ∈ u, x ∈ l) → u.length ≤ l.length
  | [], l, _, _ => by simp
  | x :: u, l, hn, h => by
    obtain ⟨h1, h2⟩ := List.nodup_cons.1 hn
    have hx := h x (List.mem_cons_self ..)
    have := nodup_le (l := l.erase x) h2 fun y hy => (List.mem_erase_of_ne (fun e => h1 (by rw [← e]; exact hy))).2 (h y (List.mem_cons_of_mem _ hy))
    rw [List.length_erase_of_mem hx] at this
    have hp : 0 < l.length := List.length_pos_of_mem hx
    rw [List.length_cons]; omega
theorem uniq_nodup {l u : List (List Int)} (h : Uniq l u) : u.Nodup := h.1.imp fun {a b} hab e => by subst e; rw [ltS_irr] at hab; cases hab
theorem uniq_le {l u : List (List Int)} (h : Uniq l u) : u.length ≤ l.length := nodup_le (uniq_nodup h) fun x hx => (h.2 x).1 hx
end Go.Proofs.Ytbeoedgoikcbpaa

namespace Go.Proofs.Ytbeoedgoikcbpaa
set_option linter.unusedSimpArgs false
set_option linter.unusedVariables false
set_option maxRecDepth 100000
open Go Go.Ann Go.RowKit
def boolE (b : Bool) : List Value := [.bool b]
theorem RdS.bl {w : World} {ad : Addr} {n cap : Nat} {l : List Bool} (h : RdS w 1 boolE (.slice (some ad) n cap) l) {k : Nat} (hk : k < l.length) : w.cell? (ad.add k) = some (.bool l[k]) :=
  RdS.at1 (e1 := fun r => .bool r) h hk
theorem zip_at {l : List OpT} {d : List Bool} {f : OpT → Bool} (hl : d.length = l.length) : ((l.map f).zip d).all (fun p => p.2 || !p.1) = true ↔ ∀ j, (h : j < l.length) → (h' : j < d.length) → d[j] = true ∨ f l[j] = false := by
  rw [List.all_eq_true]
  constructor
  · intro h j h1 h2
    have := h (f l[j], d[j]) (by
      rw [List.mem_iff_getElem]
      exact ⟨j, by simp; omega, by simp⟩)
    simpa using this
  · rintro h ⟨x, y⟩ hp
    obtain ⟨j, hj, e⟩ := List.mem_iff_getElem.1 hp
    simp only [List.getElem_zip, List.getElem_map, Prod.mk.injEq] at e
    simp only [List.length_zip, List.length_map] at hj
    have := h j (by omega) (by omega)
    rw [← e.1, ← e.2]
    simpa using this
theorem rmay_ok {w : World} {lv dv : Value} {l : List OpT} {d : List Bool} {i : Nat} (h : RdS w 11 OpT.enc lv l) (hd : RdS w 1 boolE dv d) (hl : d.length = l.length) (hi : i < l.length) (hn : l.length ≤ 16) :
    Ret Try.prog 48 [lv, dv, .int .i64 i] w fun u w' => u = .bool (mayP l d i l[i]) ∧ Below w.heap.size w w' := by
  obtain ⟨la, lc, rfl, _⟩ := h.form
  obtain ⟨da, dc, rfl, _⟩ := hd.form
  obtain ⟨p, rfl⟩ := h.ptr (by omega)
  obtain ⟨q, rfl⟩ := hd.ptr (by omega)
  have hid : i < d.length := by omega
  refine ent48 _ _ _ _ _ ?_
  have ei := RdS.bl hd hid
  have gd : d.getD i false = d[i] := by rw [List.getD_eq_getElem?_getD, List.getElem?_eq_getElem hid]; rfl
  simp (disch := first | omega | exact okFill_t rfl | exact okSize_t rfl | exact fun h => h | (simp only [World.size_alloc, World.size_drew, World.size_setCell, size_fill, bytesW]; omega)) only [go_sem, c48, c48S0, c48S1, c48S2, c48L0, c48S3, ei]
  refine ⟨⟨by omega, by omega⟩, fun ht => ⟨?_, Below.refl _ _⟩, fun ht => ?_⟩
  · unfold mayP; rw [gd, ht]; rfl
  · simp (disch := first | omega | exact okFill_t rfl | exact okSize_t rfl | exact fun h => h | (simp only [World.size_alloc, World.size_drew, World.size_setCell, size_fill, bytesW]; omega)) only [go_sem, c48, c48S0, c48S1, c48S2, c48L0, c48S3, c48S4]
    refine W_loopU (fun j : Nat => [(7, .int .i64 j)]) (fun j w' => Below w.heap.size w w' ∧ j ≤ l.length ∧ ∀ k, (h : k < l.length) → (h' : k < d.length) → k < j → d[k] = true ∨ before l[k] l[i] = false) (fun j => l.length - j) 0 rfl ⟨Below.refl _ _, Nat.zero_le _, fun k _ _ h => by omega⟩ ?_
    rintro j w2 ⟨b2, hj, hall⟩
    by_cases hlt : j < l.length
    · have hlt' : (j : Int) < l.length := by omega
      have hjd : j < d.length := by omega
      have hb2 : Below w.heap.size w w2.drew := b2.drew
      have ej := RdS.bl (hd.below b2 (by decide)) hjd
      have eo := (h.below b2 (by decide)).at OpT.len hlt
      have eo2 := (h.below b2 (by decide)).at OpT.len hi
      have lp := h.blt OpT.len (by decide) (by omega)
      have lq := hd.blt (fun _ => rfl) (by decide) (by omega)
      have hsz := b2.size
      simp (disch := first | omega | exact okFill_t rfl | exact okSize_t rfl | exact fun h => h | (simp only [World.size_alloc, World.size_drew, World.size_setCell, size_fill, bytesW]; omega)) only [go_sem, c48, c48S0, c48S1, c48S2, c48L0, c48S3, c48S4, c48L0, hlt']
      refine c48draw0 (Chg (fun _ => False) _) (Chg.refl _ _) ?_
      simp (disch := first | omega | exact okFill_t rfl | exact okSize_t rfl | exact fun h => h | (simp only [World.size_alloc, World.size_drew, World.size_setCell, size_fill, bytesW]; omega)) only [go_sem, c48, c48S0, c48S1, c48S2, c48L0, c48S3, c48S4, c48D0, ej, eo, eo2, OpT.len]
      have nxt : d[j] = true ∨ before l[j] l[i] = false → ∀ k, (h : k < l.length) → (h' : k < d.length) → k < j + 1 → d[k] = true ∨ before l[k] l[i] = false := fun hh k h1 h2 h3 => by
        rcases Nat.lt_or_ge k j with h4 | h4
        · exact hall k h1 h2 h4
        · obtain rfl : k = j := by omega
          exact hh
      refine ⟨⟨by omega, by omega⟩, fun hdj => ⟨⟨by omega, by omega⟩, ⟨by omega, by omega⟩, Ret.mono (rbefore_ok l[j] l[i] w2.drew) ?_⟩, fun hdj => ?_⟩
      · rintro _ w3 ⟨rfl, b3⟩
        have b33 := Below.next hb2 b3
        cases hbf : before l[j] l[i] with
        | true =>
          simp (disch := first | omega | exact okFill_t rfl | exact okSize_t rfl | exact fun h => h | (simp only [World.size_alloc, World.size_drew, World.size_setCell, size_fill, bytesW]; omega)) only [go_sem, c48, c48S0, c48S1, c48S2, c48L0, c48S3, c48S4, c48D0]
          refine ⟨?_, b33⟩
          cases hm : mayP l d i l[i] with
          | false => rfl
          | true =>
            unfold mayP at hm
            rw [Bool.and_eq_true] at hm
            have := (zip_at (f := fun p => before p l[i]) hl).1 hm.2 j hlt hjd
            rw [hdj, hbf] at this
            simp at this
        | false =>
          simp (disch := first | omega | exact okFill_t rfl | exact okSize_t rfl | exact fun h => h | (simp only [World.size_alloc, World.size_drew, World.size_setCell, size_fill, bytesW]; omega)) only [go_sem, c48, c48S0, c48S1, c48S2, c48L0, c48S3, c48S4, c48D0]
          exact ⟨⟨by omega, by omega⟩, j + 1, rfl, ⟨b33, by omega, nxt (.inr hbf)⟩, by omega⟩
      · exact ⟨⟨by omega, by omega⟩, j + 1, rfl, ⟨hb2, by omega, nxt (.inl hdj)⟩, by omega⟩
    · have hlt' : ¬ (j : Int) < l.length := by omega
      simp (disch := first | omega | exact okFill_t rfl | exact okSize_t rfl | exact fun h => h | (simp only [World.size_alloc, World.size_drew, World.size_setCell, size_fill, bytesW]; omega)) only [go_sem, c48, c48S0, c48S1, c48S2, c48L0, c48S3, c48S4, c48L0, hlt']
      refine ⟨?_, b2⟩
      have : mayP l d i l[i] = true := by
        unfold mayP
        rw [gd, ht]
        exact (zip_at (f := fun p => before p l[i]) hl).2 fun k h1 h2 => hall k h1 h2 (by omega)
      rw [this]
theorem rfull_ok {w : World} {lv dv : Value} {l : List OpT} {d : List Bool} (h : RdS w 11 OpT.enc lv l) (hd : RdS w 1 boolE dv d) (hl : d.length = l.length) (hn : l.length ≤ 16) :
    Ret Try.prog 38 [lv, dv] w fun u w' => u = .bool (fullP l d) ∧ w' = w := by
  obtain ⟨la, lc, rfl, _⟩ := h.form
  obtain ⟨da, dc, rfl, _⟩ := hd.form
  refine ent38 _ _ _ _ ?_
  simp (disch := first | omega | exact okFill_t rfl | exact okSize_t rfl | exact fun h => h | (simp only [World.size_alloc, World.size_drew, World.size_setCell, size_fill, bytesW]; omega)) only [go_sem, c38, c38S0, c38S1, c38L0, c38S2]
  refine W_loopU (fun j : Nat => [(5, .int .i64 j)]) (fun j w' => w' = w ∧ j ≤ l.length ∧ ∀ k, (h : k < l.length) → (h' : k < d.length) → k < j → d[k] = true ∨ l[k].Done = false) (fun j => l.length - j) 0 rfl ⟨rfl, Nat.zero_le _, fun k _ _ h => by omega⟩ ?_
  rintro j _ ⟨rfl, hj, hall⟩
  by_cases hlt : j < l.length
  · have hlt' : (j : Int) < l.length := by omega
    have hjd : j < d.length := by omega
    obtain ⟨p, rfl⟩ := h.ptr (by omega)
    obtain ⟨q, rfl⟩ := hd.ptr (by omega)
    have ej := RdS.bl hd hjd
    have eo := h.elt OpT.len (by decide) hlt
    have ho := l[j].at
    simp (disch := first | omega | exact okFill_t rfl | exact okSize_t rfl | exact fun h => h | (simp only [World.size_alloc, World.size_drew, World.size_setCell, size_fill, bytesW]; omega)) only [go_sem, c38, c38S0, c38S1, c38L0, c38S2, c38L0, hlt', ej, eo, ho]
    have nxt : d[j] = true ∨ l[j].Done = false → ∀ k, (h : k < l.length) → (h' : k < d.length) → k < j + 1 → d[k] = true ∨ l[k].Done = false := fun hh k h1 h2 h3 => by
      rcases Nat.lt_or_ge k j with h4 | h4
      · exact hall k h1 h2 h4
      · obtain rfl : k = j := by omega
        exact hh
    refine ⟨by omega, fun hD => ⟨⟨by omega, by omega⟩, fun hdj => ?_, fun hdj => ⟨⟨by omega, by omega⟩, j + 1, rfl, ⟨by omega, nxt (.inl hdj)⟩, by omega⟩⟩, fun hD => ⟨⟨by omega, by omega⟩, j + 1, rfl, ⟨by omega, nxt (.inr hD)⟩, by omega⟩⟩
    cases hm : fullP l d with
    | false => rfl
    | true =>
      have := (zip_at (f := fun o => o.Done) hl).1 hm j hlt hjd
      rw [hdj, hD] at this
      simp at this
  · have hlt' : ¬ (j : Int) < l.length := by omega
    simp (disch := first | omega | exact okFill_t rfl | exact okSize_t rfl | exact fun h => h | (simp only [World.size_alloc, World.size_drew, World.size_setCell, size_fill, bytesW]; omega)) only [go_sem, c38, c38S0, c38S1, c38L0, c38S2, c38L0, hlt']
    have : fullP l d = true := (zip_at (f := fun o => o.Done) hl).2 fun k h1 h2 => hall k h1 h2 (by omega)
    rw [this]
def keyL (d : List Bool) (s : List Int) : List UInt8 := (d.map fun b => if b then 49 else 48) ++ txt s
theorem keyL_inj {d e : List Bool} {s t : List Int} (hl : d.length = e.length) (hs : OkS s) (ht : OkS t) (h : keyL d s = keyL e t) : d = e ∧ s = t := by
  unfold keyL at h
  obtain ⟨h1, h2⟩ := List.append_inj h (by simp [hl])
  refine ⟨?_, hs.inj ht h2⟩
  refine List.map_inj_right (fun a b hab => ?_) |>.1 h1
  cases a <;> cases b <;> first | rfl | (simp at hab)
theorem txt_len {s : List Int} (h : OkS s) : (txt s).length ≤ 10000010 := by
  have h1 := flat_len h.1
  have h2 := varL_10 (show s.length < 18446744073709551616 by have := h.2; omega)
  have h3 := h.2
  unfold txt
  rw [List.length_append]; omega
theorem key_ok {w : World} {dv sv : Value} {d : List Bool} {s : List Int} (hd : RdS w 1 boolE dv d) (hs : RdS w 1 intE sv s) (hok : OkS s) (hn : d.length ≤ 16) :
    Ret Try.prog 68 [.agg #[dv, sv]] w fun u w' => u = .string (ofL (keyL d s)) ∧ Below w.heap.size w w' := by
  obtain ⟨da, dc, rfl, _⟩ := hd.form
  obtain ⟨sa, sc, rfl, _⟩ := hs.form
  refine ent68 _ _ _ ?_
  have s1 := (St.start (W0 := w)).box #[.slice da d.length dc, .slice sa s.length sc] 83
  simp (disch := first | omega | exact okFill_t rfl | exact okSize_t rfl | exact fun h => h | (simp only [World.size_alloc, World.size_drew, World.size_setCell, size_fill, bytesW]; omega)) only [go_sem, c68, c68S0, c68S1, c68L0, c68S2]
  generalize w.alloc (.cells #[.slice da d.length dc, .slice sa s.length sc] 83) = w1 at s1 ⊢
  have r1 := s1.rules 0 rfl
  have hd1 := hd.below s1.bel (by decide)
  refine W_loopU (fun j : Nat => [(3, .string (ofL ((d.take j).map fun b => if b then 49 else 48))), (4, .int .i64 j)]) (fun j w' => w' = w1 ∧ j ≤ d.length) (fun j => d.length - j) 0 rfl ⟨rfl, Nat.zero_le _⟩ ?_
  rintro j _ ⟨rfl, hj⟩
  by_cases hlt : j < d.length
  · have hlt' : (j : Int) < d.length := by omega
    obtain ⟨q, rfl⟩ := hd1.ptr (by omega)
    have ej := RdS.bl hd1 hlt
    simp (disch := first | omega | exact okFill_t rfl | exact okSize_t rfl | exact fun h => h | (simp only [World.size_alloc, World.size_drew, World.size_setCell, size_fill, bytesW]; omega)) only [go_sem, c68, c68S0, c68S1, c68L0, c68S2, c68S3, c68L0, hlt', ej, r1]
    have et : d.take (j + 1) = d.take j ++ [d[j]] := List.take_succ_eq_append_getElem hlt
    have hln : ((d.take j).map fun b => if b = true then (49 : UInt8) else 48).length ≤ 16 := by simp; omega
    refine ⟨by omega, fun hb => ⟨by omega, ⟨by omega, by omega⟩, j + 1, ?_, by omega, by omega⟩, fun hb => ⟨by omega, ⟨by omega, by omega⟩, j + 1, ?_, by omega, by omega⟩⟩
    · rw [et, List.map_append, hb]; rfl
    · rw [et, List.map_append, hb]; rfl
  · have hlt' : ¬ (j : Int) < d.length := by omega
    simp (disch := first | omega | exact okFill_t rfl | exact okSize_t rfl | exact fun h => h | (simp only [World.size_alloc, World.size_drew, World.size_setCell, size_fill, bytesW]; omega)) only [go_sem, c68, c68S0, c68S1, c68L0, c68S2, c68S3, c68L0, hlt', r1]
    refine Ret.mono (rtext_ok _ s _ (hs.below s1.bel (by decide)) hok.1 hok.2) ?_
    rintro _ w2 ⟨rfl, b2⟩
    simp (disch := first | omega | exact okFill_t rfl | exact okSize_t rfl | exact fun h => h | (simp only [World.size_alloc, World.size_drew, World.size_setCell, size_fill, bytesW]; omega)) only [go_sem, c68, c68S0, c68S1, c68L0, c68S2, c68S3]
    have hln : ((d.take j).map fun b => if b = true then (49 : UInt8) else 48).length ≤ 16 := by simp; omega
    have htl := txt_len hok
    refine ⟨by omega, ?_, Below.next s1.bel b2⟩
    rw [List.take_of_length_le (by omega)]; rfl
end Go.Proofs.Ytbeoedgoikcbpaa

namespace Go.Proofs.Ytbeoedgoikcbpaa
set_option linter.unusedSimpArgs false
set_option linter.unusedVariables false
set_option maxRecDepth 100000
open Go Go.Ann Go.RowKit
def Inv.bs (B : List (Value × List Bool)) : Inv := ⟨fun w => ∀ p ∈ B, RdS w 1 boolE p.1 p.2, fun k => ∃ p ∈ B, slFoot p.1 k, fun w w' h hk p hp => RdS.loc (h p hp) fun k hf => hk k ⟨p, hp, hf⟩⟩
theorem bs_seal {W0 w : World} {F : Nat → Prop} {L : List Res} {I : List Inv} {v : Value} {e sz n : Nat} {xs : List Value} {d : List Bool} {D : List VS} {B : List (Value × List Bool)} (h : St W0 w F (.row v e sz n xs :: L) (Inv.vs D :: Inv.bs B :: I)) (hr : RdS w 1 boolE v d) : St W0 w F L (Inv.vs D :: Inv.bs ((v, d) :: B) :: I) := by
  have h1 := h.seal (Inv.bs [(v, d)]) (fun p hp => by rw [List.mem_singleton] at hp; subst hp; exact hr) (fun k hk => by
    obtain ⟨p, hp, hk⟩ := hk
    rw [List.mem_singleton] at hp; subst hp
    exact slFoot_own hk)
  have i0 := h1.inv _ (List.mem_cons_self ..)
  have i1 := h1.inv (Inv.vs D) (List.mem_cons_of_mem _ (List.mem_cons_self ..))
  have i2 := h1.inv (Inv.bs B) (List.mem_cons_of_mem _ (List.mem_cons_of_mem _ (List.mem_cons_self ..)))
  refine ((h1.inv_sub (I' := I) fun a ha => List.mem_cons_of_mem _ (List.mem_cons_of_mem _ (List.mem_cons_of_mem _ ha))).keep (Inv.bs ((v, d) :: B)) (fun p hp => ?_) fun k hk => ?_).keep (Inv.vs D) i1.1 i1.2
  · rcases List.mem_cons.1 hp with rfl | hp
    · exact hr
    · exact i2.1 p hp
  · obtain ⟨p, hp, hk⟩ := hk
    rcases List.mem_cons.1 hp with rfl | hp
    · exact i0.2 k ⟨_, List.mem_singleton.2 rfl, hk⟩
    · exact i2.2 k ⟨p, hp, hk⟩
theorem vs_add2 {W0 w w' : World} {F : Nat → Prop} {L : List Res} {I : List Inv} {D : List VS} {v u : Value} {s t : List Int} (h : St W0 w F L (Inv.vs D :: I)) (hb : Below w.heap.size w w') (hr : RdS w' 1 intE v s) (hu : (u, t) ∈ D) (hf : ∀ k, slFoot v k → slFoot u k ∨ w.heap.size ≤ k) : St W0 w' F L (Inv.vs ((v, s) :: D) :: I) := by
  have h' := h.call hb
  have hD := h'.inv _ (List.mem_cons_self ..)
  refine (h'.inv_sub (I' := I) fun a ha => List.mem_cons_of_mem _ ha).keep (Inv.vs ((v, s) :: D)) (fun p hp => ?_) fun k hk => ?_
  · rcases List.mem_cons.1 hp with rfl | hp
    · exact hr
    · exact hD.1 p hp
  · obtain ⟨p, hp, hk⟩ := hk
    rcases List.mem_cons.1 hp with rfl | hp
    · rcases hf k hk with h1 | h1
      · exact hD.2 k ⟨_, hu, h1⟩
      · refine ⟨hr.footLt (by decide) hk, fun hF => ?_, fun r hr' e => ?_⟩
        · have := (h.foot k hF).2; omega
        · have := ((h.res r hr').1.lt k e).2; omega
    · exact hD.2 k ⟨p, hp, hk⟩
abbrev RS := Value × Value × Spot
def rsE (q : RS) : List Value := [q.1, q.2.1]
def rsP (q : RS) : Spot := q.2.2
def rkey (q : RS) : List UInt8 := keyL q.2.2.1 q.2.2.2
def strE (l : List UInt8) : Value := .string (ofL l)
def addR (Q : List RS) (q : RS) : List RS := if q.2.2 ∈ Q.map rsP then Q else Q ++ [q]
theorem addR_snd (Q : List RS) (q : RS) : (addR Q q).map rsP = addP (Q.map rsP) q.2.2 := by
  unfold addR addP
  split
  · rfl
  · simp [rsP]
theorem addR_mem {Q : List RS} {q p : RS} (h : p ∈ addR Q q) : p ∈ Q ∨ p = q := by
  unfold addR at h
  split at h
  · exact .inl h
  · rcases List.mem_append.1 h with h | h
    · exact .inl h
    · exact .inr (List.mem_singleton.1 h)
theorem addR_pre (Q : List RS) (q : RS) : Q <+: addR Q q := by
  unfold addR; split
  · exact List.prefix_rfl
  · exact List.prefix_append _ _
theorem rkey_iff {K : Int} {M n : Nat} {Q : List RS} {q : RS} (hM : M + n ≤ 1000000) (hQ : ∀ p ∈ Q, Good K M n (rsP p)) (hq : Good K M n (rsP q)) : rkey q ∈ Q.map rkey ↔ rsP q ∈ Q.map rsP := by
  constructor
  · intro h
    obtain ⟨p, hp, e⟩ := List.mem_map.1 h
    have g := hQ p hp
    obtain ⟨e1, e2⟩ := keyL_inj (g.len.trans hq.len.symm) (g.okS hM) (hq.okS hM) e
    exact List.mem_map.2 ⟨p, hp, Prod.ext e1 e2⟩
  · intro h
    obtain ⟨p, hp, e⟩ := List.mem_map.1 h
    refine List.mem_map.2 ⟨p, hp, ?_⟩
    have e : p.2.2 = q.2.2 := e
    unfold rkey
    rw [e]
def RL (m : Nat) (ov : Value) (Q : List RS) : List Res := [.row ov 83 2 Q.length (Q.flatMap rsE), .obj m (mapO strE (Q.map rkey))]
theorem bool_map (d : List Bool) : d.flatMap boolE = d.map Value.bool := by
  induction d with
  | nil => rfl
  | cons x d ih => rw [List.flatMap_cons, ih]; rfl
theorem keyT_s : KeyT Try.prog 9 strE .string := keyT_str Try.underlying9
theorem own_cell {w : World} {B0 e sz n m c g : Nat} {xs : List Value} (h : w.ownsRow B0 e sz (.slice (some ⟨g, 0, none⟩) n c) m xs) : (∀ j u, xs[j]? = some u → w.cell? ⟨g, j, none⟩ = some u) ∧ ∀ j, w.frozen? ⟨g, j, none⟩ = false := by
  rcases h.2 with ⟨e, _⟩ | ⟨g', c', cur, e, hg, hb, _, _, _, ht⟩
  · cases e
  · simp only [Value.slice.injEq, Option.some.injEq, Addr.mk.injEq] at e
    obtain ⟨⟨rfl, _⟩, _⟩ := e
    have hB : Blk w g cur e := hb
    refine ⟨fun j u hu => ?_, hB.frozen⟩
    rw [hB.cell, ← Array.getElem?_toList]
    rw [← ht, List.getElem?_take] at hu
    split at hu
    · exact hu
    · cases hu
theorem rs_in {W0 w : World} {F : Nat → Prop} {L : List Res} {I : List Inv} {m i lc M : Nat} {la : Option Addr} {ov dv sv : Value} {l : List OpT} {d : List Bool} {s : List Int} {Q : List RS} {D : List VS} {B : List (Value × List Bool)} {b K : Int} {P : Post}
    (h : St W0 w F (RL m ov Q ++ L) (Inv.vs D :: Inv.bs B :: Inv.rd 11 OpT.enc (.slice la l.length lc) l :: I)) (hq : Q[i]? = some (dv, sv, d, s))
    (hn : l.length ≤ 16) (hK : ∀ o ∈ l, o.Kind = K) (hw : ∀ o ∈ l, o.wf) (hM : M ≤ 100000) (hQ : ∀ q ∈ Q, Good K M l.length (rsP q)) (hD : ∀ q ∈ Q, (q.2.1, q.2.2.2) ∈ D ∧ (q.1, q.2.2.1) ∈ B) (hlen : Q.length ≤ 200000)
    (hP : ∀ (w' : World) (Q' : List RS) (D' : List VS) (B' : List (Value × List Bool)) (ov' : Value), St W0 w' F (RL m ov' Q' ++ L) (Inv.vs D' :: Inv.bs B' :: Inv.rd 11 OpT.enc (.slice la l.length lc) l :: I) →
      (∀ q ∈ Q', Good K M l.length (rsP q)) → (∀ q ∈ Q', (q.2.1, q.2.2.2) ∈ D' ∧ (q.1, q.2.2.1) ∈ B') → Q'.map rsP = roundK l (d, s) (Q.map rsP) l.length → (∀ p ∈ D, p ∈ D') → Q <+: Q' →
      P .normal [(0, .slice la l.length lc), (2, .int .i64 b), (7, ov'), (8, .map (some m)), (12, .int .i64 (i + 1))] w') :
    W Try.prog (sg c37S14) [(0, .slice la l.length lc), (2, .int .i64 b), (7, ov), (8, .map (some m)), (12, .int .i64 i)] w P := by
  simp (disch := first | omega | exact okFill_t rfl | exact okSize_t rfl | exact fun h => h | (simp only [World.size_alloc, World.size_drew, World.size_setCell, size_fill, bytesW]; omega)) only [go_sem, c37, c37S0, c37S1, c37S2, c37S3, c37L0, c37S4, c37S5, c37S6, c37S7, c37S8, c37S9, c37S10, c37S11, c37S12, c37L1, c37S14, c37L2, c37S15, c37S16, c37S17]
  have hil : i < Q.length := (List.getElem?_eq_some_iff.1 hq).1
  refine W_loopU (fun x : Nat × Value × List RS × List VS × List (Value × List Bool) => [(7, x.2.1), (13, .int .i64 x.1)]) (fun z w' => St W0 w' F (RL m z.2.1 z.2.2.1 ++ L) (Inv.vs z.2.2.2.1 :: Inv.bs z.2.2.2.2 :: Inv.rd 11 OpT.enc (.slice la l.length lc) l :: I) ∧ z.1 ≤ l.length ∧
    (∀ q ∈ z.2.2.1, Good K M l.length (rsP q)) ∧ (∀ q ∈ z.2.2.1, (q.2.1, q.2.2.2) ∈ z.2.2.2.1 ∧ (q.1, q.2.2.1) ∈ z.2.2.2.2) ∧ z.2.2.1.map rsP = roundK l (d, s) (Q.map rsP) z.1 ∧ (∀ p ∈ D, p ∈ z.2.2.2.1) ∧ Q <+: z.2.2.1) (fun z => l.length - z.1) (0, ov, Q, D, B) rfl ⟨h, Nat.zero_le _, hQ, hD, rfl, (fun p hp => hp), List.prefix_rfl⟩ ?_
  rintro ⟨k, ok, R, E, C⟩ w2 ⟨s2, hk, gR, dR, eR, sub, pre⟩
  simp only at s2 hk gR dR eR sub pre
  have hRl : R.length ≤ Q.length + k := by
    have := congrArg List.length eR
    have h2 := roundK_len l (d, s) (Q.map rsP) k
    simp only [List.length_map] at this h2
    omega
  have hiR : i < R.length := Nat.lt_of_lt_of_le hil pre.length_le
  have hRi : R[i] = (dv, sv, d, s) := by
    obtain ⟨t, rfl⟩ := pre
    rw [List.getElem_append_left hil]
    exact (List.getElem?_eq_some_iff.1 hq).2
  obtain ⟨ra, rc, rfl, _⟩ := own_slice (s2.row 0 rfl)
  obtain ⟨g, rfl⟩ := own_ptr (s2.row 0 rfl) (by omega)
  by_cases hlt : k < l.length
  · have hlt' : (k : Int) < l.length := by omega
    have hrd := s2.rd 2 rfl
    obtain ⟨p, rfl⟩ := hrd.ptr (by omega)
    have eo := hrd.at OpT.len hlt
    have ee := (RdS.of_own' (enc := rsE) (s2.row 0 rfl) R rfl rfl).elt (fun _ => rfl) (by decide) hiR
    rw [hRi, Addr.add_lit, Nat.zero_add] at ee
    have e0 : w2.cell? ⟨g, i * 2, none⟩ = some dv := ee.1
    have e1 : w2.cell? ⟨g, i * 2 + 1, none⟩ = some sv := by
      have := ee.2 1 (by decide) (by decide)
      simp only [Nat.zero_add] at this
      exact this
    have hmemR : R[i] ∈ R := List.getElem_mem hiR
    have gi : Good K M l.length (d, s) := by have := gR _ hmemR; rw [hRi] at this; exact this
    have di := dR _ hmemR
    rw [hRi] at di
    have hdv : RdS w2 1 boolE dv d := (s2.inv (Inv.bs C) (List.mem_cons_of_mem _ (List.mem_cons_self ..))).1 _ di.2
    have hsv : RdS w2 1 intE sv s := (s2.inv (Inv.vs E) (List.mem_cons_self ..)).1 _ di.1
    obtain ⟨da, dc, rfl, _⟩ := hdv.form
    obtain ⟨sa, sc, rfl, _⟩ := hsv.form
    simp (disch := first | omega | exact okFill_t rfl | exact okSize_t rfl | exact fun h => h | (simp only [World.size_alloc, World.size_drew, World.size_setCell, size_fill, bytesW]; omega)) only [go_sem, c37, c37S0, c37S1, c37S2, c37S3, c37L0, c37S4, c37S5, c37S6, c37S7, c37S8, c37S9, c37S10, c37S11, c37S12, c37L1, c37S13, c37S14, c37L2, c37S15, c37S16, c37S17, c37L1, hlt', e0]
    refine ⟨⟨by omega, by omega⟩, Ret.mono (rmay_ok hrd hdv gi.len hlt hn) ?_⟩
    rintro _ w3 ⟨rfl, b3⟩
    have s3 := s2.call b3
    have go1 : roundK l (d, s) (Q.map rsP) (k + 1) = goP l (d, s) (R.map rsP) k := by rw [roundK, ← eR]
    have lk : l[k]? = some l[k] := List.getElem?_eq_getElem hlt
    have hmem := List.getElem_mem hlt
    have gd : d.length = l.length := gi.len
    cases hmy : mayP l d k l[k] with
    | false =>
      simp (disch := first | omega | exact okFill_t rfl | exact okSize_t rfl | exact fun h => h | (simp only [World.size_alloc, World.size_drew, World.size_setCell, size_fill, bytesW]; omega)) only [go_sem, c37, c37S0, c37S1, c37S2, c37S3, c37L0, c37S4, c37S5, c37S6, c37S7, c37S8, c37S9, c37S10, c37S11, c37S12, c37L1, c37S13, c37S14, c37L2, c37S15, c37S16, c37S17]
      refine ⟨⟨by omega, by omega⟩, (k + 1, .slice (some ⟨g, 0, none⟩) R.length rc, R, E, C), rfl, ⟨s3, by simp only; omega, gR, dR, ?_, sub, pre⟩, by simp only; omega⟩
      simp only
      rw [go1]; unfold goP; rw [lk]; simp [hmy]
    | true =>
      have e0' : w3.cell? ⟨g, i * 2, none⟩ = some (.slice da d.length dc) := cell_below b3 e0
      have e1' : w3.cell? ⟨g, i * 2 + 1, none⟩ = some (.slice sa s.length sc) := cell_below b3 e1
      have eo' := cellsO_below b3 eo
      have lg : g < w3.heap.size := World.block_lt_of_cell? w3 ⟨g, i * 2, none⟩ e0'
      have hsv3 : RdS w3.drew 1 intE (.slice sa s.length sc) s := (hsv.below b3 (by decide)).below (Below.refl _ w3).drew (by decide)
      have s4 := s3.drew
      simp (disch := first | omega | exact okFill_t rfl | exact okSize_t rfl | exact fun h => h | (simp only [World.size_alloc, World.size_drew, World.size_setCell, size_fill, bytesW]; omega)) only [go_sem, c37, c37S0, c37S1, c37S2, c37S3, c37L0, c37S4, c37S5, c37S6, c37S7, c37S8, c37S9, c37S10, c37S11, c37S12, c37L1, c37S13, c37S14, c37L2, c37S15, c37S16, c37S17]
      refine c37draw1 (Chg (fun _ => False) _) (Chg.refl _ _) ?_
      simp (disch := first | omega | exact okFill_t rfl | exact okSize_t rfl | exact fun h => h | (simp only [World.size_alloc, World.size_drew, World.size_setCell, size_fill, bytesW]; omega)) only [go_sem, c37, c37S0, c37S1, c37S2, c37S3, c37L0, c37S4, c37S5, c37S6, c37S7, c37S8, c37S9, c37S10, c37S11, c37S12, c37L1, c37S13, c37S14, c37L2, c37S15, c37S16, c37S17, c37D1, e1', eo', OpT.len]
      have hsl : s.length ≤ 1000000 := (gi.okS (by omega)).2
      refine ⟨⟨by omega, by omega⟩, ⟨by omega, by omega⟩, Ret.mono (rstep_ok _ s l[k] _ hsv3 hsl (fun e => gi.ris ((hK _ hmem).symm.trans e))) ?_⟩
      rintro _ w5 ⟨⟨t, okk, rfl, hm⟩, b5⟩
      cases hst : stepP s l[k] with
      | none =>
        rw [hst] at hm
        have hm : okk = false := hm
        subst hm
        have s5 := s4.call b5
        simp (disch := first | omega | exact okFill_t rfl | exact okSize_t rfl | exact fun h => h | (simp only [World.size_alloc, World.size_drew, World.size_setCell, size_fill, bytesW]; omega)) only [go_sem, c37, c37S0, c37S1, c37S2, c37S3, c37L0, c37S4, c37S5, c37S6, c37S7, c37S8, c37S9, c37S10, c37S11, c37S12, c37L1, c37S13, c37S14, c37L2, c37S15, c37S16, c37S17, c37D1]
        refine ⟨⟨by omega, by omega⟩, (k + 1, .slice (some ⟨g, 0, none⟩) R.length rc, R, E, C), rfl, ⟨s5, by simp only; omega, gR, dR, ?_, sub, pre⟩, by simp only; omega⟩
        simp only
        rw [go1]; unfold goP; rw [lk]; simp [hmy, hst]
      | some s' =>
        rw [hst] at hm
        obtain ⟨rfl, h5, f5⟩ := hm
        have s5 := vs_add2 s4 b5 h5 di.1 f5
        have gN : Good K M l.length (d.set k true, s') := gi.go hlt hK hw hmy hst
        have e05 : w5.cell? ⟨g, i * 2, none⟩ = some (.slice da d.length dc) := cell_below b5 e0'
        obtain ⟨tb, tc, rfl, _⟩ := h5.form
        simp (disch := first | omega | exact okFill_t rfl | exact okSize_t rfl | exact fun h => h | (simp only [World.size_alloc, World.size_drew, World.size_setCell, size_fill, bytesW]; omega)) only [go_sem, c37, c37S0, c37S1, c37S2, c37S3, c37L0, c37S4, c37S5, c37S6, c37S7, c37S8, c37S9, c37S10, c37S11, c37S12, c37L1, c37S13, c37S14, c37L2, c37S15, c37S16, c37S17, c37D1]
        refine bsW_none ty41mkI ?_
        have lg5 : g < w5.heap.size := World.block_lt_of_cell? w5 ⟨g, i * 2, none⟩ e05
        simp (disch := first | omega | exact okFill_t rfl | exact okSize_t rfl | exact fun h => h | (simp only [World.size_alloc, World.size_drew, World.size_setCell, size_fill, bytesW]; omega)) only [go_sem, c37, c37S0, c37S1, c37S2, c37S3, c37L0, c37S4, c37S5, c37S6, c37S7, c37S8, c37S9, c37S10, c37S11, c37S12, c37L1, c37S13, c37S14, c37L2, c37S15, c37S16, c37S17, e05]
        have s6 := s5.emptyRow 4 1
        have hdv6 : RdS (w5.alloc (.cells #[] 4)) 1 boolE (.slice da d.length dc) d := (s6.inv (Inv.bs C) (by simp)).1 _ di.2
        refine ⟨⟨by omega, by omega⟩, s6.append 0 rfl ty41mkI rfl (by decide) hdv6 (by intro u hu; obtain ⟨x, _, hx⟩ := List.mem_flatMap.1 hu; simp only [boolE, List.mem_singleton] at hx; subst hx; rfl) (by omega) (by omega) ?_⟩
        intro v7 w7 s7 c7
        simp only [List.set_cons_zero, List.nil_append, Nat.zero_add] at s7
        obtain ⟨a7, d7, rfl, _⟩ := own_slice (s7.row 0 rfl)
        obtain ⟨g7, rfl⟩ := own_ptr (s7.row 0 rfl) (by omega)
        simp (disch := first | omega | exact okFill_t rfl | exact okSize_t rfl | exact fun h => h | (simp only [World.size_alloc, World.size_drew, World.size_setCell, size_fill, bytesW]; omega)) only [go_sem, c37, c37S0, c37S1, c37S2, c37S3, c37L0, c37S4, c37S5, c37S6, c37S7, c37S8, c37S9, c37S10, c37S11, c37S12, c37L1, c37S13, c37S14, c37L2, c37S15, c37S16, c37S17]
        refine bdW_built (cells := #[.slice (some ⟨g7, 0, none⟩) d.length d7, .slice tb s'.length tc]) (by kernel_rfl) ?_
        simp (disch := first | omega | exact okFill_t rfl | exact okSize_t rfl | exact fun h => h | (simp only [World.size_alloc, World.size_drew, World.size_setCell, size_fill, bytesW]; omega)) only [go_sem, c37, c37S0, c37S1, c37S2, c37S3, c37L0, c37S4, c37S5, c37S6, c37S8, c37S9, c37S10, c37S11, c37S12, c37L1, c37S13, c37S14, c37L2, c37S15, c37S16, c37S17]
        have s8 := s7.box #[.slice (some ⟨g7, 0, none⟩) d.length d7, .slice tb s'.length tc] 83
        have n7 : w7.heap.size = w7.heap.size := rfl
        generalize w7.alloc (.cells #[.slice (some ⟨g7, 0, none⟩) d.length d7, .slice tb s'.length tc] 83) = w8 at s8 ⊢
        generalize w7.heap.size = y at s8 ⊢
        have r8 := s8.rules 0 rfl
        have c8 := own_cell (s8.row 1 rfl)
        have dk : (d.flatMap boolE)[k]? = some (.bool (d[k]'(by omega))) := by
          rw [bool_map, List.getElem?_map, List.getElem?_eq_getElem (by omega)]; rfl
        have ck := c8.1 k _ dk
        have fk := c8.2 k
        have ny : g7 ≠ y := fun e => s8.ne 0 1 rfl rfl (by decide) (k := y) rfl (by rw [← e]; rfl)
        simp (disch := first | omega | exact okFill_t rfl | exact okSize_t rfl | exact fun h => h | (simp only [World.size_alloc, World.size_drew, World.size_setCell, size_fill, bytesW]; omega)) only [go_sem, c37, c37S0, c37S1, c37S2, c37S3, c37L0, c37S4, c37S5, c37S6, c37S7, c37S8, c37S9, c37S10, c37S11, c37S12, c37L1, c37S13, c37S14, c37L2, c37S15, c37S16, c37S17, r8, ck, fk]
        have s9 := bs_seal (d := d.set k true) ((s8.put 1 rfl k (.bool true)).perm (List.Perm.swap _ _ _)) (by
          refine RdS.of_own' (((s8.put 1 rfl k (.bool true)).row 1 rfl)) (d.set k true) (by simp) ?_
          rw [bool_map, bool_map, List.map_set])
        refine ⟨⟨by omega, by omega⟩, ?_⟩
        have ly := (s9.low 0 rfl).2
        generalize w8.setCell ⟨g7, k, none⟩ (.bool true) = w9 at s9 ly ⊢
        have hdN : RdS w9 1 boolE (.slice (some ⟨g7, 0, none⟩) d.length d7) (d.set k true) := (s9.inv (Inv.bs _) (List.mem_cons_of_mem _ (List.mem_cons_self ..))).1 _ (List.mem_cons_self ..)
        have hsN : RdS w9 1 intE (.slice tb s'.length tc) s' := (s9.inv (Inv.vs _) (List.mem_cons_self ..)).1 _ (List.mem_cons_self ..)
        have okN := gN.okS (show M + l.length ≤ 1000000 by omega)
        refine Ret.mono (key_ok hdN hsN okN (by simp; omega)) ?_
        rintro _ w10 ⟨rfl, b10⟩
        have s10 := s9.call b10
        simp (disch := first | omega | exact okFill_t rfl | exact okSize_t rfl | exact fun h => h | (simp only [World.size_alloc, World.size_drew, World.size_setCell, size_fill, bytesW]; omega)) only [go_sem, c37, c37S0, c37S1, c37S2, c37S3, c37L0, c37S4, c37S5, c37S6, c37S7, c37S8, c37S9, c37S10, c37S11, c37S12, c37L1, c37S13, c37S14, c37L2, c37S15, c37S16, c37S17]
        refine luW_map keyT_s Try.underlying109 (s10.obj 2 rfl) (keyL (d.set k true) s') (Try.zeroValue4 _) ?_
        have hmm := rkey_iff (M := M) (Q := R) (q := ((Value.slice (some ⟨g7, 0, none⟩) d.length d7 : Value), (Value.slice tb s'.length tc : Value), (d.set k true, s'))) (by omega) gR gN
        simp (disch := first | omega | exact okFill_t rfl | exact okSize_t rfl | exact fun h => h | (simp only [World.size_alloc, World.size_drew, World.size_setCell, size_fill, bytesW]; omega)) only [go_sem, c37, c37S0, c37S1, c37S2, c37S3, c37L0, c37S4, c37S5, c37S6, c37S7, c37S8, c37S9, c37S10, c37S11, c37S12, c37L1, c37S13, c37S14, c37L2, c37S15, c37S16, c37S17]
        refine ⟨fun hno => ?_, fun hyes => ?_⟩
        · have hnin : (d.set k true, s') ∉ R.map rsP := fun h' => hno (hmm.2 h')
          have r10 := s10.rules 0 rfl
          simp (disch := first | omega | exact okFill_t rfl | exact okSize_t rfl | exact fun h => h | (simp only [World.size_alloc, World.size_drew, World.size_setCell, size_fill, bytesW]; omega)) only [go_sem, c37, c37S0, c37S1, c37S2, c37S3, c37L0, c37S4, c37S5, c37S6, c37S7, c37S8, c37S9, c37S10, c37S11, c37S12, c37L1, c37S13, c37S14, c37L2, c37S15, c37S16, c37S17, r10]
          have hdN2 := hdN.below b10 (by decide)
          have hsN2 := hsN.below b10 (by decide)
          refine Ret.mono (key_ok hdN2 hsN2 okN (by simp; omega)) ?_
          rintro _ w11 ⟨rfl, b11⟩
          have s11 := s10.call b11
          simp (disch := first | omega | exact okFill_t rfl | exact okSize_t rfl | exact fun h => h | (simp only [World.size_alloc, World.size_drew, World.size_setCell, size_fill, bytesW]; omega)) only [go_sem, c37, c37S0, c37S1, c37S2, c37S3, c37L0, c37S4, c37S5, c37S6, c37S7, c37S8, c37S9, c37S10, c37S11, c37S12, c37L1, c37S13, c37S14, c37L2, c37S15, c37S16, c37S17]
          refine muW_map keyT_s Try.underlying109 (s11.obj 2 rfl) (keyL (d.set k true) s') hno ?_
          have s12 := s11.putObj 2 rfl (mapO strE (R.map rkey ++ [keyL (d.set k true) s']))
          simp only [List.set_cons_zero, List.set_cons_succ, RL, List.cons_append, List.nil_append] at s12
          generalize w11.putObj m (mapO strE (R.map rkey ++ [keyL (d.set k true) s'])) = w12 at s12 ⊢
          have r12 := s12.rules 0 rfl
          simp (disch := first | omega | exact okFill_t rfl | exact okSize_t rfl | exact fun h => h | (simp only [World.size_alloc, World.size_drew, World.size_setCell, size_fill, bytesW]; omega)) only [go_sem, c37, c37S0, c37S1, c37S2, c37S3, c37L0, c37S4, c37S5, c37S6, c37S7, c37S8, c37S9, c37S10, c37S11, c37S12, c37L1, c37S13, c37S14, c37L2, c37S15, c37S16, c37S17, r12]
          refine bsW_agg ty79mkI rfl (by decide) (by decide) ?_
          simp (disch := first | omega | exact okFill_t rfl | exact okSize_t rfl | exact fun h => h | (simp only [World.size_alloc, World.size_drew, World.size_setCell, size_fill, bytesW]; omega)) only [go_sem, c37, c37S0, c37S1, c37S2, c37S3, c37L0, c37S4, c37S5, c37S6, c37S7, c37S8, c37S9, c37S10, c37S11, c37S12, c37L1, c37S13, c37S14, c37L2, c37S15, c37S16, c37S17]
          have hx : Rd (w12.alloc (.cells #[.slice (some ⟨g7, 0, none⟩) d.length d7, .slice tb s'.length tc] 83)) 2 (.slice (some ⟨w12.heap.size, 0, none⟩) 1 1) 1 [.slice (some ⟨g7, 0, none⟩) d.length d7, .slice tb s'.length tc] := rd_new (n := 1) (cs := #[.slice (some ⟨g7, 0, none⟩) d.length d7, .slice tb s'.length tc]) rfl
          refine (s12.alloc' (.cells #[.slice (some ⟨g7, 0, none⟩) d.length d7, .slice tb s'.length tc] 83)).append 1 rfl ty79mkI rfl (by decide) hx (by intro u hu; simp only [List.mem_cons, List.not_mem_nil, or_false] at hu; rcases hu with rfl | rfl <;> rfl) (by omega) (by omega) ?_
          intro v13 w13 s13 c13
          simp only [List.set_cons_zero, List.set_cons_succ] at s13
          simp (disch := first | omega | exact okFill_t rfl | exact okSize_t rfl | exact fun h => h | (simp only [World.size_alloc, World.size_drew, World.size_setCell, size_fill, bytesW]; omega)) only [go_sem, c37, c37S0, c37S1, c37S2, c37S3, c37L0, c37S4, c37S5, c37S6, c37S7, c37S8, c37S9, c37S10, c37S11, c37S12, c37L1, c37S13, c37S14, c37L2, c37S15, c37S16, c37S17]
          have s14 := s13.sub (L' := RL m v13 (R ++ [((Value.slice (some ⟨g7, 0, none⟩) d.length d7 : Value), (Value.slice tb s'.length tc : Value), (d.set k true, s'))]) ++ L) (by
            unfold RL
            rw [List.length_append, List.flatMap_append, List.map_append]
            exact List.sublist_cons_self _ _)
          have eA : addR R ((Value.slice (some ⟨g7, 0, none⟩) d.length d7 : Value), (Value.slice tb s'.length tc : Value), (d.set k true, s')) = R ++ [((Value.slice (some ⟨g7, 0, none⟩) d.length d7 : Value), (Value.slice tb s'.length tc : Value), (d.set k true, s'))] := by
            unfold addR
            exact if_neg hnin
          rw [← eA] at s14
          refine ⟨⟨by omega, by omega⟩, (k + 1, v13, addR R ((Value.slice (some ⟨g7, 0, none⟩) d.length d7 : Value), (Value.slice tb s'.length tc : Value), (d.set k true, s')), (.slice tb s'.length tc, s') :: E, (.slice (some ⟨g7, 0, none⟩) d.length d7, d.set k true) :: C), rfl, ⟨s14, by simp only; omega, fun q hq => ?_, fun q hq => ?_, ?_, fun p hp => List.mem_cons_of_mem _ (sub p hp), pre.trans (addR_pre _ _)⟩, by simp only; omega⟩
          · rcases addR_mem hq with hq | rfl
            · exact gR q hq
            · exact gN
          · rcases addR_mem hq with hq | rfl
            · exact ⟨List.mem_cons_of_mem _ (dR q hq).1, List.mem_cons_of_mem _ (dR q hq).2⟩
            · exact ⟨List.mem_cons_self .., List.mem_cons_self ..⟩
          · simp only
            rw [go1, addR_snd]; unfold goP; rw [lk]; simp only [hmy, hst, if_true]
        · have hin : (d.set k true, s') ∈ R.map rsP := hmm.1 hyes
          refine ⟨⟨by omega, by omega⟩, (k + 1, .slice (some ⟨g, 0, none⟩) R.length rc, R, (.slice tb s'.length tc, s') :: E, (.slice (some ⟨g7, 0, none⟩) d.length d7, d.set k true) :: C), rfl, ⟨s10.sub (List.sublist_cons_self _ _), by simp only; omega, gR, fun q hq => ⟨List.mem_cons_of_mem _ (dR q hq).1, List.mem_cons_of_mem _ (dR q hq).2⟩, ?_, fun p hp => List.mem_cons_of_mem _ (sub p hp), pre⟩, by simp only; omega⟩
          simp only
          rw [go1]; unfold goP; rw [lk]; simp only [hmy, hst, if_true]
          unfold addP
          rw [if_pos hin]
  · have hlt' : ¬ (k : Int) < l.length := by omega
    simp (disch := first | omega | exact okFill_t rfl | exact okSize_t rfl | exact fun h => h | (simp only [World.size_alloc, World.size_drew, World.size_setCell, size_fill, bytesW]; omega)) only [go_sem, c37, c37S0, c37S1, c37S2, c37S3, c37L0, c37S4, c37S5, c37S6, c37S7, c37S8, c37S9, c37S10, c37S11, c37S12, c37L1, c37S13, c37S14, c37L2, c37S15, c37S16, c37S17, c37L1, hlt']
    have e : k = l.length := by omega
    subst e
    refine ⟨⟨by omega, by omega⟩, ?_⟩
    exact hP _ _ _ _ _ s2 gR dR eR sub pre
end Go.Proofs.Ytbeoedgoikcbpaa

namespace Go.Proofs.Ytbeoedgoikcbpaa
set_option linter.unusedSimpArgs false
set_option linter.unusedVariables false
set_option maxRecDepth 100000
open Go Go.Ann Go.RowKit
def SpotsR (l : List OpT) (t0 : List Spot) (b : Int) (Q : List RS) : Prop :=
  (b < (Q.length : Int) ∧ SearchR l t0 b none) ∨ ((Q.length : Int) ≤ b ∧ SearchR l t0 b (some (Q.map rsP)))
theorem rs_main {W0 w : World} {F : Nat → Prop} {L : List Res} {I : List Inv} {m lc M : Nat} {la : Option Addr} {ov : Value} {l : List OpT} {Q : List RS} {D : List VS} {B : List (Value × List Bool)} {b K : Int} {t0 : List Spot} {P : Value → World → Prop}
    (h : St W0 w F (RL m ov Q ++ L) (Inv.vs D :: Inv.bs B :: Inv.rd 11 OpT.enc (.slice la l.length lc) l :: I))
    (hn : l.length ≤ 16) (hK : ∀ o ∈ l, o.Kind = K) (hw : ∀ o ∈ l, o.wf) (hM : M ≤ 100000) (hQ : ∀ q ∈ Q, Good K M l.length (rsP q)) (hD : ∀ q ∈ Q, (q.2.1, q.2.2.2) ∈ D ∧ (q.1, q.2.2.1) ∈ B) (hlen : Q.length ≤ 60000) (hb : b ≤ 32768)
    (hover : b < (Q.length : Int) → b < (t0.length : Int)) (h0 : (Q.length : Int) ≤ b → Q.map rsP = t0)
    (hP : ∀ (w' : World) (Q' : List RS) (D' : List VS) (B' : List (Value × List Bool)) (ov' : Value), St W0 w' F (RL m ov' Q' ++ L) (Inv.vs D' :: Inv.bs B' :: Inv.rd 11 OpT.enc (.slice la l.length lc) l :: I) →
      (∀ q ∈ Q', Good K M l.length (rsP q)) → (∀ q ∈ Q', (q.2.1, q.2.2.2) ∈ D' ∧ (q.1, q.2.2.1) ∈ B') → Q'.length ≤ 60100 → SpotsR l t0 b Q' → P ov' w') :
    W Try.prog (sg c37S16) [(0, .slice la l.length lc), (2, .int .i64 b), (7, ov), (8, .map (some m))] w (finQ Try.prog [.tmp 6] P) := by
  simp (disch := first | omega | exact okFill_t rfl | exact okSize_t rfl | exact fun h => h | (simp only [World.size_alloc, World.size_drew, World.size_setCell, size_fill, bytesW]; omega)) only [go_sem, c37, c37S0, c37S1, c37S2, c37S3, c37L0, c37S4, c37S5, c37S6, c37S7, c37S8, c37S9, c37S10, c37S11, c37S12, c37L1, c37S13, c37S14, c37L2, c37S15, c37S16, c37S17]
  by_cases hov : b < (Q.length : Int)
  · refine W_loopU (fun x : Nat => [(12, .int .i64 x)]) (fun x w' => w' = w ∧ x = 0) (fun x => x) 0 rfl ⟨rfl, rfl⟩ ?_
    rintro x _ ⟨rfl, rfl⟩
    obtain ⟨oa, oc, rfl, _⟩ := own_slice (h.row 0 rfl)
    have hov' : ¬ (Q.length : Int) ≤ b := by omega
    by_cases h0 : (0 : Int) < Q.length
    · simp (disch := first | omega | exact okFill_t rfl | exact okSize_t rfl | exact fun h => h | (simp only [World.size_alloc, World.size_drew, World.size_setCell, size_fill, bytesW]; omega)) only [go_sem, c37, c37S0, c37S1, c37S2, c37S3, c37L0, c37S4, c37S5, c37S6, c37S7, c37S8, c37S9, c37S10, c37S11, c37S12, c37L1, c37S13, c37S14, c37L2, c37S15, c37S16, c37S17, c37L2, h0, hov']
      exact hP _ Q D B _ h hQ hD (by omega) (.inl ⟨hov, 0, hover hov⟩)
    · simp (disch := first | omega | exact okFill_t rfl | exact okSize_t rfl | exact fun h => h | (simp only [World.size_alloc, World.size_drew, World.size_setCell, size_fill, bytesW]; omega)) only [go_sem, c37, c37S0, c37S1, c37S2, c37S3, c37L0, c37S4, c37S5, c37S6, c37S7, c37S8, c37S9, c37S10, c37S11, c37S12, c37L1, c37S13, c37S14, c37L2, c37S15, c37S16, c37S17, c37L2, h0]
      exact hP _ Q D B _ h hQ hD (by omega) (.inl ⟨hov, 0, hover hov⟩)
  have e0 := h0 (by omega)
  refine W_loopU (fun x : Nat × Value × List RS × List VS × List (Value × List Bool) => [(7, x.2.1), (12, .int .i64 x.1)]) (fun z w' => St W0 w' F (RL m z.2.1 z.2.2.1 ++ L) (Inv.vs z.2.2.2.1 :: Inv.bs z.2.2.2.2 :: Inv.rd 11 OpT.enc (.slice la l.length lc) l :: I) ∧ z.1 ≤ 32769 ∧ z.1 ≤ z.2.2.1.length ∧ z.2.2.1.length ≤ 60100 ∧
    (∀ q ∈ z.2.2.1, Good K M l.length (rsP q)) ∧ (∀ q ∈ z.2.2.1, (q.2.1, q.2.2.2) ∈ z.2.2.2.1 ∧ (q.1, q.2.2.1) ∈ z.2.2.2.2) ∧ z.2.2.1.map rsP = bfsN l t0 z.1) (fun z => 32770 - z.1) (0, ov, Q, D, B) rfl ⟨h, by omega, Nat.zero_le _, by simp only; omega, hQ, hD, e0⟩ ?_
  rintro ⟨i, ok, R, E, C⟩ w2 ⟨s2, h32, hi, hRl, gR, dR, eR⟩
  simp only at s2 h32 hi hRl gR dR eR
  obtain ⟨ra, rc, rfl, _⟩ := own_slice (s2.row 0 rfl)
  by_cases hlt : i < R.length
  · have hlt' : (i : Int) < R.length := by omega
    by_cases ho : (R.length : Int) ≤ b
    · simp (disch := first | omega | exact okFill_t rfl | exact okSize_t rfl | exact fun h => h | (simp only [World.size_alloc, World.size_drew, World.size_setCell, size_fill, bytesW]; omega)) only [go_sem, c37, c37S0, c37S1, c37S2, c37S3, c37L0, c37S4, c37S5, c37S6, c37S7, c37S8, c37S9, c37S10, c37S11, c37S12, c37L1, c37S13, c37L2, c37S15, c37S16, c37S17, c37L2, hlt', ho]
      obtain ⟨⟨dv, sv, d, s⟩, hri⟩ : ∃ q, R[i] = q := ⟨_, rfl⟩
      have hrq : R[i]? = some (dv, sv, d, s) := by rw [List.getElem?_eq_getElem hlt, hri]
      refine rs_in (K := K) (M := M) s2 hrq hn hK hw hM gR dR (by omega) ?_
      intro w3 R3 E3 C3 v3 s3 g3 d3 e3 sub3 pre3
      simp (disch := first | omega | exact okFill_t rfl | exact okSize_t rfl | exact fun h => h | (simp only [World.size_alloc, World.size_drew, World.size_setCell, size_fill, bytesW]; omega)) only [go_sem, c37, c37S0, c37S1, c37S2, c37S3, c37L0, c37S4, c37S5, c37S6, c37S7, c37S8, c37S9, c37S10, c37S11, c37S12, c37L1, c37S13, c37S14, c37L2, c37S15, c37S16, c37S17]
      have len3 : R3.length ≤ R.length + l.length := by
        have := congrArg List.length e3
        have h2 := roundK_len l (d, s) (R.map rsP) l.length
        simp only [List.length_map] at this h2
        omega
      refine ⟨(i + 1, v3, R3, E3, C3), rfl, ⟨s3, by simp only; omega, by simp only; have := pre3.length_le; omega, by simp only; omega, g3, d3, ?_⟩, by simp only; omega⟩
      simp only
      rw [bfsN, ← eR, List.getElem?_map, hrq]
      exact e3
    · simp (disch := first | omega | exact okFill_t rfl | exact okSize_t rfl | exact fun h => h | (simp only [World.size_alloc, World.size_drew, World.size_setCell, size_fill, bytesW]; omega)) only [go_sem, c37, c37S0, c37S1, c37S2, c37S3, c37L0, c37S4, c37S5, c37S6, c37S7, c37S8, c37S9, c37S10, c37S11, c37S12, c37L1, c37S13, c37S14, c37L2, c37S15, c37S16, c37S17, c37L2, hlt', ho]
      refine hP _ R E C _ s2 gR dR hRl (.inl ⟨by omega, i, ?_⟩)
      rw [← eR, List.length_map]; omega
  · have hlt' : ¬ (i : Int) < R.length := by omega
    simp (disch := first | omega | exact okFill_t rfl | exact okSize_t rfl | exact fun h => h | (simp only [World.size_alloc, World.size_drew, World.size_setCell, size_fill, bytesW]; omega)) only [go_sem, c37, c37S0, c37S1, c37S2, c37S3, c37L0, c37S4, c37S5, c37S6, c37S7, c37S8, c37S9, c37S10, c37S11, c37S12, c37L1, c37S13, c37S14, c37L2, c37S15, c37S16, c37S17, c37L2, hlt']
    refine hP _ R E C _ s2 gR dR hRl ?_
    by_cases ho : (R.length : Int) ≤ b
    · exact .inr ⟨ho, ⟨i, eR.symm, by rw [List.length_map]; omega⟩, by rw [List.length_map]; exact ho⟩
    · refine .inl ⟨by omega, i, ?_⟩
      rw [← eR, List.length_map]; omega
end Go.Proofs.Ytbeoedgoikcbpaa

namespace Go.Proofs.Ytbeoedgoikcbpaa
set_option linter.unusedSimpArgs false
set_option linter.unusedVariables false
set_option maxRecDepth 100000
open Go Go.Ann Go.RowKit
theorem bs_seal2 {W0 w : World} {F : Nat → Prop} {L : List Res} {I : List Inv} {v : Value} {r : Res} {d : List Bool} {D : List VS} {B : List (Value × List Bool)} (h : St W0 w F (r :: L) (Inv.vs D :: Inv.bs B :: I)) (hr : RdS w 1 boolE v d) (hf : ∀ k, slFoot v k → r.own = some k) : St W0 w F L (Inv.vs D :: Inv.bs ((v, d) :: B) :: I) := by
  have h1 := h.seal (Inv.bs [(v, d)]) (fun p hp => by rw [List.mem_singleton] at hp; subst hp; exact hr) (fun k hk => by
    obtain ⟨p, hp, hk⟩ := hk
    rw [List.mem_singleton] at hp; subst hp
    exact hf k hk)
  have i0 := h1.inv _ (List.mem_cons_self ..)
  have i1 := h1.inv (Inv.vs D) (List.mem_cons_of_mem _ (List.mem_cons_self ..))
  have i2 := h1.inv (Inv.bs B) (List.mem_cons_of_mem _ (List.mem_cons_of_mem _ (List.mem_cons_self ..)))
  refine ((h1.inv_sub (I' := I) fun a ha => List.mem_cons_of_mem _ (List.mem_cons_of_mem _ (List.mem_cons_of_mem _ ha))).keep (Inv.bs ((v, d) :: B)) (fun p hp => ?_) fun k hk => ?_).keep (Inv.vs D) i1.1 i1.2
  · rcases List.mem_cons.1 hp with rfl | hp
    · exact hr
    · exact i2.1 p hp
  · obtain ⟨p, hp, hk⟩ := hk
    rcases List.mem_cons.1 hp with rfl | hp
    · exact i0.2 k ⟨_, List.mem_singleton.2 rfl, hk⟩
    · exact i2.2 k ⟨p, hp, hk⟩
theorem rd_false {w : World} {g n : Nat} {t : TypeId} (hB : Blk w g (zerosA (Value.bool false) n) t) : RdS w 1 boolE (.slice (some ⟨g, 0, none⟩) n n) (List.replicate n false) := by
  have e : (zerosA (Value.bool false) n).toList = (List.replicate n false).map Value.bool := by simp [zerosA]
  refine ⟨by rw [bool_map]; simp, some ⟨g, 0, none⟩, n, by simp, by simp, fun _ => ⟨_, rfl, fun j u hu => ?_⟩⟩
  rw [bool_map, ← e] at hu
  rw [Addr.add_lit, Nat.zero_add, hB.cell, ← Array.getElem?_toList]
  exact hu
theorem rs_new {w : World} {ov mv sv : Value} {n lc k U fc : Nat} {la : Option Addr} {p : Addr} {b : Int} {Q : Post} (hn : n ≤ 16) (hk : k < U) (hs : w.cell? (p.add k) = some sv) (h1 : ∃ a n c, sv = .slice a n c)
    (hQ : ∀ w' y g, St w.drew w' (fun _ => False) [.blk y #[.slice (some ⟨g, 0, none⟩) n n, sv] 83, .blk g (zerosA (.bool false) n) 4] [] →
      W Try.prog (sg c37S1) [(0, .slice la n lc), (2, .int .i64 b), (7, ov), (8, mv), (9, .slice (some p) U fc), (10, .int .i64 k), (11, .pointer (some ⟨y, 0, none⟩))] w' Q) :
    drawW Try.prog (drawOps 0 c37code) [0, 2, 7, 8, 9, 10, 11] [(0, .slice la n lc), (2, .int .i64 b), (7, ov), (8, mv), (9, .slice (some p) U fc), (10, .int .i64 k)] w (thenQ Try.prog (sg c37S1) Q) := by
  obtain ⟨sa, sn, sc, rfl⟩ := h1
  have lp : p.block < w.heap.size := by have := World.block_lt_of_cell? w _ hs; rwa [add_block] at this
  have lp' : p.block < w.drew.heap.size := lp
  refine c37draw0 (Chg (fun _ => False) _) (Chg.refl _ _) ?_
  have t0 := St.start (W0 := w.drew)
  simp (disch := first | omega | exact okFill_t rfl | exact okSize_t rfl | exact fun h => h | (simp only [World.size_alloc, World.size_drew, World.size_setCell, size_fill, bytesW]; omega)) only [go_sem, c37, c37S0, c37S2, c37S3, c37L0, c37S4, c37S5, c37S6, c37S7, c37S8, c37S9, c37S10, c37S11, c37S12, c37L1, c37S13, c37S14, c37L2, c37S15, c37S16, c37S17, c37D0, hs]
  refine ⟨⟨by omega, by omega⟩, ?_, ?_⟩
  · refine msW_one ty41mkI rfl (by omega) (by omega) (by omega) (by omega) ?_
    simp (disch := first | omega | exact okFill_t rfl | exact okSize_t rfl | exact fun h => h | (simp only [World.size_alloc, World.size_drew, World.size_setCell, size_fill, bytesW]; omega)) only [go_sem, c37, c37S0, c37S2, c37S3, c37L0, c37S4, c37S5, c37S6, c37S7, c37S8, c37S9, c37S10, c37S11, c37S12, c37L1, c37S13, c37S14, c37L2, c37S15, c37S16, c37S17]
    have t1 := t0.box (zerosA (.bool false) n) 4
    refine ⟨Chg.of_below t1.bel, ?_, ?_⟩
    · refine bdW_built (cells := #[.slice (some ⟨w.heap.size, 0, none⟩) n n, .slice sa sn sc]) (by kernel_rfl) ?_
      simp (disch := first | omega | exact okFill_t rfl | exact okSize_t rfl | exact fun h => h | (simp only [World.size_alloc, World.size_drew, World.size_setCell, size_fill, bytesW]; omega)) only [go_sem, c37, c37S0, c37S2, c37S3, c37L0, c37S4, c37S5, c37S6, c37S7, c37S8, c37S9, c37S10, c37S11, c37S12, c37L1, c37S13, c37S14, c37L2, c37S15, c37S16, c37S17]
      have t2 := t1.box #[.slice none 0 0, .slice none 0 0] 83
      rw [World.size_alloc, World.size_drew] at t2
      have t3 := t2.fill 0 rfl (cs := #[.slice (some ⟨w.heap.size, 0, none⟩) n n, .slice sa sn sc]) rfl
      exact ⟨Chg.of_below t1.bel, Chg.of_below t2.bel, Chg.of_below t3.bel, hQ _ _ _ t3⟩
    · have t2 := t1.box #[.slice none 0 0, .slice none 0 0] 83
      rw [World.size_alloc, World.size_drew] at t2
      refine ⟨Chg.of_below t2.bel, bdW_built (cells := #[.slice (some ⟨w.heap.size, 0, none⟩) n n, .slice sa sn sc]) (by kernel_rfl) ?_⟩
      simp (disch := first | omega | exact okFill_t rfl | exact okSize_t rfl | exact fun h => h | (simp only [World.size_alloc, World.size_drew, World.size_setCell, size_fill, bytesW]; omega)) only [go_sem, c37, c37S0, c37S2, c37S3, c37L0, c37S4, c37S5, c37S6, c37S7, c37S8, c37S9, c37S10, c37S11, c37S12, c37L1, c37S13, c37S14, c37L2, c37S15, c37S16, c37S17]
      have t3 := t2.fill 0 rfl (cs := #[.slice (some ⟨w.heap.size, 0, none⟩) n n, .slice sa sn sc]) rfl
      exact ⟨Chg.of_below t2.bel, Chg.of_below t3.bel, hQ _ _ _ t3⟩
  · have t1 := t0.box #[.slice none 0 0, .slice none 0 0] 83
    refine ⟨Chg.of_below t1.bel, msW_one ty41mkI rfl (by omega) (by omega) (by omega) (by omega) ?_⟩
    simp (disch := first | omega | exact okFill_t rfl | exact okSize_t rfl | exact fun h => h | (simp only [World.size_alloc, World.size_drew, World.size_setCell, size_fill, bytesW]; omega)) only [go_sem, c37, c37S0, c37S2, c37S3, c37L0, c37S4, c37S5, c37S6, c37S7, c37S8, c37S9, c37S10, c37S11, c37S12, c37L1, c37S13, c37S14, c37L2, c37S15, c37S16, c37S17]
    have t2 := t1.box (zerosA (.bool false) n) 4
    rw [World.size_alloc, World.size_drew] at t2
    refine ⟨Chg.of_below t2.bel, bdW_built (cells := #[.slice (some ⟨w.heap.size + 1, 0, none⟩) n n, .slice sa sn sc]) (by kernel_rfl) ?_⟩
    simp (disch := first | omega | exact okFill_t rfl | exact okSize_t rfl | exact fun h => h | (simp only [World.size_alloc, World.size_drew, World.size_setCell, size_fill, bytesW]; omega)) only [go_sem, c37, c37S0, c37S2, c37S3, c37L0, c37S4, c37S5, c37S6, c37S7, c37S8, c37S9, c37S10, c37S11, c37S12, c37L1, c37S13, c37S14, c37L2, c37S15, c37S16, c37S17]
    have t3 := t2.fill 1 rfl (cs := #[.slice (some ⟨w.heap.size + 1, 0, none⟩) n n, .slice sa sn sc]) rfl
    exact ⟨Chg.of_below t2.bel, Chg.of_below t3.bel, hQ _ _ _ (t3.perm (List.Perm.swap _ _ _))⟩
theorem spots_ok {W0 w : World} {F : Nat → Prop} {L : List Res} {I : List Inv} {lc M : Nat} {la : Option Addr} {ev : Value} {l : List OpT} {E D : List VS} {b K : Int}
    (h : St W0 w F L (Inv.vs D :: Inv.rd 11 OpT.enc (.slice la l.length lc) l :: I)) (hE : RowS w ev E) (hED : ∀ p ∈ E, p ∈ D)
    (hn : l.length ≤ 16) (hK : ∀ o ∈ l, o.Kind = K) (hw : ∀ o ∈ l, o.wf) (hEl : E.length ≤ 50000) (hM : M ≤ 100000)
    (hEo : ∀ p ∈ E, Ok64 p.2 ∧ p.2.length ≤ M ∧ (K = 5 → p.2.Pairwise (· < ·))) (hb : b ≤ 32768) :
    Ret Try.prog 37 [.slice la l.length lc, ev, .int .i64 b] w fun u w' => ∃ U0 Q D' B' m, Uniq (E.map Prod.snd) U0 ∧ St W0 w' F (RL m u Q ++ L) (Inv.vs D' :: Inv.bs B' :: Inv.rd 11 OpT.enc (.slice la l.length lc) l :: I) ∧
      (∀ q ∈ Q, Good K M l.length (rsP q)) ∧ (∀ q ∈ Q, (q.2.1, q.2.2.2) ∈ D' ∧ (q.1, q.2.2.1) ∈ B') ∧ Q.length ≤ 60100 ∧ SpotsR l (startP l.length U0) b Q := by
  refine ent37 _ _ _ _ _ ?_
  simp (disch := first | omega | exact okFill_t rfl | exact okSize_t rfl | exact fun h => h | (simp only [World.size_alloc, World.size_drew, World.size_setCell, size_fill, bytesW]; omega)) only [go_sem, c37, c37S0, c37S1, c37S2, c37S3, c37L0, c37S4, c37S5, c37S6, c37S7, c37S8, c37S9, c37S10, c37S11, c37S12, c37L1, c37S13, c37S14, c37L2, c37S15, c37S16, c37S17]
  refine mmW_map (κ := List UInt8) (enc := strE) ?_
  have s1 := h.lay (mapO strE [])
  have hE1 := hE.below ((Below.refl w.heap.size w).alloc (Nat.le_refl _) (mapO strE []))
  generalize w.alloc (mapO strE []) = w1 at s1 hE1 ⊢
  generalize w.heap.size = m at s1 ⊢
  simp (disch := first | omega | exact okFill_t rfl | exact okSize_t rfl | exact fun h => h | (simp only [World.size_alloc, World.size_drew, World.size_setCell, size_fill, bytesW]; omega)) only [go_sem, c37, c37S0, c37S1, c37S2, c37S3, c37L0, c37S4, c37S5, c37S6, c37S7, c37S8, c37S9, c37S10, c37S11, c37S12, c37L1, c37S13, c37S14, c37L2, c37S15, c37S16, c37S17]
  refine Ret.mono (sorted_ok _ E w1 hE1 (fun p hp => ⟨(hEo p hp).1, by have := (hEo p hp).2.1; omega⟩) (by omega)) ?_
  rintro fv w2 ⟨⟨U, hU, hUE, hrow⟩, b2⟩
  have s2 := ((s1.add b2 (.row fv 36 1 U.length (U.map Prod.fst)) (own_mono hrow s1.size) (fun k hk => (World.ownsRow.lt hrow k hk).1)))
  have i2 := s2.inv _ (List.mem_cons_self ..)
  have s3 := (St.keepSub (s2.inv_sub (I' := Inv.rd 11 OpT.enc (.slice la l.length lc) l :: I) fun a ha => List.mem_cons_of_mem _ ha) (b := Inv.rd 11 OpT.enc (.slice la l.length lc) l) (by simp) (Inv.bs []) (fun p hp => by cases hp) (fun k hk => by obtain ⟨p, hp, _⟩ := hk; cases hp)).keep (Inv.vs D) i2.1 i2.2
  have s4 := (s3.nilRow 83 2)
  have s5 := s4.perm (L' := RL m (.slice none 0 0) [] ++ (.row fv 36 1 U.length (U.map Prod.fst) :: L)) ((List.Perm.swap _ _ _).cons _)
  have hUl : U.length ≤ 50000 := by
    have := uniq_le hU
    simp only [List.length_map] at this
    omega
  have gU : ∀ p ∈ U, Good K M l.length (List.replicate l.length false, p.2) := fun p hp => by
    obtain ⟨h1, h2, h3⟩ := hEo p (hUE p hp)
    exact ⟨by simp, h1, by simp only; omega, h3⟩
  obtain ⟨fa, fc, rfl, _⟩ := own_slice hrow
  simp (disch := first | omega | exact okFill_t rfl | exact okSize_t rfl | exact fun h => h | (simp only [World.size_alloc, World.size_drew, World.size_setCell, size_fill, bytesW]; omega)) only [go_sem, c37, c37S0, c37S1, c37S2, c37S3, c37L0, c37S4, c37S5, c37S6, c37S7, c37S8, c37S9, c37S10, c37S11, c37S12, c37L1, c37S13, c37S14, c37L2, c37S15, c37S17]
  refine W_loopU (fun x : Nat × Value × List RS × List (Value × List Bool) => [(7, x.2.1), (10, .int .i64 x.1)]) (fun z w' => St W0 w' F (RL m z.2.1 z.2.2.1 ++ (.row (.slice fa U.length fc) 36 1 U.length (U.map Prod.fst) :: L)) (Inv.vs D :: Inv.bs z.2.2.2 :: Inv.rd 11 OpT.enc (.slice la l.length lc) l :: I) ∧ z.1 ≤ U.length ∧ z.2.2.1.length = z.1 ∧ (z.1 = 0 ∨ (z.1 : Int) ≤ b + 1) ∧
    z.2.2.1.map rsP = startP l.length ((U.take z.1).map Prod.snd) ∧ (∀ q ∈ z.2.2.1, (q.2.1, q.2.2.2) ∈ D ∧ (q.1, q.2.2.1) ∈ z.2.2.2)) (fun z => U.length - z.1) (0, .slice none 0 0, [], []) rfl ⟨s5, Nat.zero_le _, rfl, .inl rfl, rfl, (fun q hq => by cases hq)⟩ ?_
  rintro ⟨k, ok, R, C⟩ w6 ⟨s6, hk, hRk, hkb, eR, dR⟩
  simp only at s6 hk hRk hkb eR dR
  have gR : ∀ q ∈ R, Good K M l.length (rsP q) := fun q hq => by
    have : rsP q ∈ R.map rsP := List.mem_map.2 ⟨q, hq, rfl⟩
    rw [eR] at this
    obtain ⟨t, ht, e⟩ := List.mem_map.1 this
    obtain ⟨p, hp, rfl⟩ := List.mem_map.1 ht
    rw [← e]
    exact gU p (List.mem_of_mem_take hp)
  have fin : ∀ (c : ¬ (k < U.length ∧ (R.length : Int) ≤ b)), W Try.prog (sg c37S16) [(0, .slice la l.length lc), (2, .int .i64 b), (7, ok), (8, .map (some m))] w6 (finQ Try.prog [.tmp 6] fun u w' => ∃ U0 Q D' B' m, Uniq (E.map Prod.snd) U0 ∧ St W0 w' F (RL m u Q ++ L) (Inv.vs D' :: Inv.bs B' :: Inv.rd 11 OpT.enc (.slice la l.length lc) l :: I) ∧
      (∀ q ∈ Q, Good K M l.length (rsP q)) ∧ (∀ q ∈ Q, (q.2.1, q.2.2.2) ∈ D' ∧ (q.1, q.2.2.1) ∈ B') ∧ Q.length ≤ 60100 ∧ SpotsR l (startP l.length U0) b Q) := fun hc => by
    refine rs_main (K := K) (M := M) (t0 := startP l.length (U.map Prod.snd)) s6 hn hK hw hM gR dR (by omega) hb (fun ho => ?_) (fun ho => ?_) ?_
    · simp only [startP, List.length_map]; omega
    · have : k = U.length := by
        rcases Nat.lt_or_ge k U.length with hlt | hlt
        · exact absurd ⟨hlt, ho⟩ hc
        · omega
      rw [eR, this, List.take_length]
    · intro w7 Q7 D7 B7 v7 s7 g7 d7 l7 r7
      exact ⟨_, Q7, D7, B7, m, hU, s7.sub ((List.Sublist.refl _).append (List.sublist_cons_self _ _)), g7, d7, l7, r7⟩
  obtain ⟨ra, rc, rfl, _⟩ := own_slice (s6.row 0 rfl)
  by_cases hlt : k < U.length
  · have hlt' : (k : Int) < U.length := by omega
    by_cases ho : (R.length : Int) ≤ b
    · obtain ⟨g, rfl⟩ := own_ptr (s6.row 2 rfl) (by omega)
      have ek := (own_cell (s6.row 2 rfl)).1 k U[k].1 (by simp [hlt])
      have memU := List.getElem_mem hlt
      have hDk : (U[k].1, U[k].2) ∈ D := hED _ (hUE _ memU)
      have hsk : RdS w6 1 intE U[k].1 U[k].2 := (s6.inv (Inv.vs D) (List.mem_cons_self ..)).1 _ hDk
      obtain ⟨sa, sc, hsf, _⟩ := hsk.form
      have gk := gU _ memU
      simp (disch := first | omega | exact okFill_t rfl | exact okSize_t rfl | exact fun h => h | (simp only [World.size_alloc, World.size_drew, World.size_setCell, size_fill, bytesW]; omega)) only [go_sem, c37, c37S0, c37S1, c37S2, c37S3, c37L0, c37S4, c37S5, c37S6, c37S7, c37S8, c37S9, c37S10, c37S11, c37S12, c37L1, c37S13, c37S14, c37L2, c37S15, c37S16, c37S17, c37L0, hlt', ho]
      refine rs_new (sv := U[k].1) hn hlt (by rw [Addr.add_lit, Nat.zero_add]; exact ek) ⟨_, _, _, hsf⟩ ?_
      intro w7 y g7 t7
      have s7 := St.join s6.drew t7
      have r7 := s7.rules 0 rfl
      rw [hsf] at r7
      have hd7 := rd_false (s7.blk 1 rfl)
      have hs7 : RdS w7 1 intE (.slice sa U[k].2.length sc) U[k].2 := by rw [← hsf]; exact (s7.inv (Inv.vs D) (List.mem_cons_self ..)).1 _ hDk
      simp (disch := first | omega | exact okFill_t rfl | exact okSize_t rfl | exact fun h => h | (simp only [World.size_alloc, World.size_drew, World.size_setCell, size_fill, bytesW]; omega)) only [go_sem, c37, c37S0, c37S1, c37S2, c37S3, c37L0, c37S4, c37S5, c37S6, c37S7, c37S8, c37S9, c37S10, c37S11, c37S12, c37L1, c37S13, c37S14, c37L2, c37S15, c37S16, c37S17, r7]
      refine Ret.mono (key_ok hd7 hs7 (gk.okS (by omega)) (by simp; omega)) ?_
      rintro _ w8 ⟨rfl, b8⟩
      have s8 := s7.call b8
      simp (disch := first | omega | exact okFill_t rfl | exact okSize_t rfl | exact fun h => h | (simp only [World.size_alloc, World.size_drew, World.size_setCell, size_fill, bytesW]; omega)) only [go_sem, c37, c37S0, c37S1, c37S2, c37S3, c37L0, c37S4, c37S5, c37S6, c37S7, c37S8, c37S9, c37S10, c37S11, c37S12, c37L1, c37S13, c37S14, c37L2, c37S15, c37S16, c37S17]
      have hnk : keyL (List.replicate l.length false) U[k].2 ∉ R.map rkey := fun hin => by
        have := (rkey_iff (M := M) (Q := R) (q := ((Value.slice none 0 0 : Value), (Value.slice none 0 0 : Value), (List.replicate l.length false, U[k].2))) (by omega) gR gk).1 hin
        rw [eR] at this
        obtain ⟨t, ht, e⟩ := List.mem_map.1 this
        simp only [rsP, Prod.mk.injEq, true_and] at e
        subst e
        have hnd := uniq_nodup hU
        rw [← List.take_append_drop k U, List.map_append, List.nodup_append] at hnd
        refine hnd.2.2 _ ht _ (List.mem_map.2 ⟨U[k], ?_, rfl⟩) rfl
        rw [List.drop_eq_getElem_cons hlt]; exact List.mem_cons_self ..
      refine muW_map keyT_s Try.underlying109 (s8.obj 3 rfl) (keyL (List.replicate l.length false) U[k].2) hnk ?_
      have s9 := s8.putObj 3 rfl (mapO strE (R.map rkey ++ [keyL (List.replicate l.length false) U[k].2]))
      simp only [List.set_cons_zero, List.set_cons_succ, RL, List.cons_append, List.nil_append] at s9
      generalize w8.putObj m (mapO strE (R.map rkey ++ [keyL (List.replicate l.length false) U[k].2])) = w9 at s9 ⊢
      have r9 := s9.rules 0 rfl
      rw [hsf] at r9
      simp (disch := first | omega | exact okFill_t rfl | exact okSize_t rfl | exact fun h => h | (simp only [World.size_alloc, World.size_drew, World.size_setCell, size_fill, bytesW]; omega)) only [go_sem, c37, c37S0, c37S1, c37S2, c37S3, c37L0, c37S4, c37S5, c37S6, c37S7, c37S8, c37S9, c37S10, c37S11, c37S12, c37L1, c37S13, c37S14, c37L2, c37S15, c37S16, c37S17, r9]
      refine bsW_agg ty79mkI rfl (by decide) (by decide) ?_
      simp (disch := first | omega | exact okFill_t rfl | exact okSize_t rfl | exact fun h => h | (simp only [World.size_alloc, World.size_drew, World.size_setCell, size_fill, bytesW]; omega)) only [go_sem, c37, c37S0, c37S1, c37S2, c37S3, c37L0, c37S4, c37S5, c37S6, c37S7, c37S8, c37S9, c37S10, c37S11, c37S12, c37L1, c37S13, c37S14, c37L2, c37S15, c37S16, c37S17]
      have hx : Rd (w9.alloc (.cells #[.slice (some ⟨g7, 0, none⟩) l.length l.length, .slice sa U[k].2.length sc] 83)) 2 (.slice (some ⟨w9.heap.size, 0, none⟩) 1 1) 1 [.slice (some ⟨g7, 0, none⟩) l.length l.length, .slice sa U[k].2.length sc] := rd_new (n := 1) (cs := #[.slice (some ⟨g7, 0, none⟩) l.length l.length, .slice sa U[k].2.length sc]) rfl
      refine (s9.alloc' (.cells #[.slice (some ⟨g7, 0, none⟩) l.length l.length, .slice sa U[k].2.length sc] 83)).append 2 rfl ty79mkI rfl (by decide) hx (by intro u hu; simp only [List.mem_cons, List.not_mem_nil, or_false] at hu; rcases hu with rfl | rfl <;> rfl) (by omega) (by omega) ?_
      intro v10 w10 s10 c10
      simp only [List.set_cons_zero, List.set_cons_succ] at s10
      simp (disch := first | omega | exact okFill_t rfl | exact okSize_t rfl | exact fun h => h | (simp only [World.size_alloc, World.size_drew, World.size_setCell, size_fill, bytesW]; omega)) only [go_sem, c37, c37S0, c37S1, c37S2, c37S3, c37L0, c37S4, c37S5, c37S6, c37S7, c37S8, c37S9, c37S10, c37S11, c37S12, c37L1, c37S13, c37S14, c37L2, c37S15, c37S16, c37S17]
      have s11 := bs_seal2 (v := .slice (some ⟨g7, 0, none⟩) l.length l.length) (d := List.replicate l.length false) (s10.sub (List.sublist_cons_self _ _)) (rd_false (s10.blk 1 rfl)) (fun k hk => by have := slFoot_own hk; exact this)
      have s12 := s11.sub (L' := RL m v10 (R ++ [((Value.slice (some ⟨g7, 0, none⟩) l.length l.length : Value), U[k].1, (List.replicate l.length false, U[k].2))]) ++ (.row (.slice (some ⟨g, 0, none⟩) U.length fc) 36 1 U.length (U.map Prod.fst) :: L)) (by
        unfold RL
        rw [List.length_append, List.flatMap_append, List.map_append, hsf]
        exact List.Sublist.refl _)
      refine ⟨⟨by omega, by omega⟩, (k + 1, v10, R ++ [((Value.slice (some ⟨g7, 0, none⟩) l.length l.length : Value), U[k].1, (List.replicate l.length false, U[k].2))], (.slice (some ⟨g7, 0, none⟩) l.length l.length, List.replicate l.length false) :: C), rfl, ⟨s12, by simp only; omega, by simp [hRk], .inr (by simp only; omega), ?_, fun q hq => ?_⟩, by simp only; omega⟩
      · simp only
        rw [List.map_append, eR, List.take_succ_eq_append_getElem hlt]
        unfold startP
        rw [List.map_append, List.map_append]
        rfl
      · rcases List.mem_append.1 hq with hq | hq
        · exact ⟨(dR q hq).1, List.mem_cons_of_mem _ (dR q hq).2⟩
        · rw [List.mem_singleton] at hq; subst hq
          exact ⟨hDk, List.mem_cons_self ..⟩
    · simp (disch := first | omega | exact okFill_t rfl | exact okSize_t rfl | exact fun h => h | (simp only [World.size_alloc, World.size_drew, World.size_setCell, size_fill, bytesW]; omega)) only [go_sem, c37, c37S0, c37S1, c37S2, c37S3, c37L0, c37S4, c37S5, c37S6, c37S7, c37S8, c37S9, c37S10, c37S11, c37S12, c37L1, c37S13, c37S14, c37L2, c37S15, c37S17, c37L0, hlt', ho]
      exact fin fun hc => ho hc.2
  · have hlt' : ¬ (k : Int) < U.length := by omega
    simp (disch := first | omega | exact okFill_t rfl | exact okSize_t rfl | exact fun h => h | (simp only [World.size_alloc, World.size_drew, World.size_setCell, size_fill, bytesW]; omega)) only [go_sem, c37, c37S0, c37S1, c37S2, c37S3, c37L0, c37S4, c37S5, c37S6, c37S7, c37S8, c37S9, c37S10, c37S11, c37S12, c37L1, c37S13, c37S14, c37L2, c37S15, c37S17, c37L0, hlt']
    exact fin fun hc => hlt hc.1
end Go.Proofs.Ytbeoedgoikcbpaa
