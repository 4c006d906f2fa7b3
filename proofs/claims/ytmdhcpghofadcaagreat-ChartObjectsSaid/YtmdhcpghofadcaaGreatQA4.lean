/- Texts put together by program. -/
import Derived.Test.YtmdhcpghofadcaaGreatQA3
namespace Go.Proofs.YtmdhcpghofadcaaGreat
set_option linter.unusedSimpArgs false
set_option linter.unusedVariables false
set_option maxRecDepth 100000
open Go Go.Ann Go.RowKit
def before (a b : OpT) : Bool := a.Done && decide (a.Return < b.Invoke)
theorem rbefore_ok (a b : OpT) (w : World) : Ret Tryz.prog 88 [.agg a.enc.toArray, .agg b.enc.toArray] w fun v w' => v = .bool (before a b) ∧ Below w.heap.size w w' := by
  refine ent88 _ _ _ _ ?_
  have ha := a.at; have hb := b.at
  simp (disch := first | omega | exact okFill_t rfl | exact okSize_t rfl | exact fun h => h | (simp only [World.size_alloc, World.size_drew, World.size_setCell, size_fill, bytesW]; omega)) only [go_sem, c88, ha, hb]
  unfold before
  refine ⟨fun h => ?_, fun h => ?_⟩
  · rw [h]; exact ⟨rfl, by (repeat' (first | with_reducible exact Below.refl _ _ | with_reducible assumption | (with_reducible refine Below.drew ?_) | (with_reducible refine Below.alloc ?_ ?_ _) | (with_reducible refine Below.setCell ?_ ?_ _) | (with_reducible refine Below.fill ?_ ?_) | (with_reducible refine Below.via (by assumption) ?_ ?_) | omega | (simp only [World.size_alloc, World.size_drew, World.size_setCell, size_fill, bytesW]; omega)))⟩
  · rw [h]; exact ⟨rfl, by (repeat' (first | with_reducible exact Below.refl _ _ | with_reducible assumption | (with_reducible refine Below.drew ?_) | (with_reducible refine Below.alloc ?_ ?_ _) | (with_reducible refine Below.setCell ?_ ?_ _) | (with_reducible refine Below.fill ?_ ?_) | (with_reducible refine Below.via (by assumption) ?_ ?_) | omega | (simp only [World.size_alloc, World.size_drew, World.size_setCell, size_fill, bytesW]; omega)))⟩
theorem before_ok (a b : OpT) (w : World) : Ret Tryz.prog 124 [.agg a.enc.toArray, .agg b.enc.toArray] w fun v w' => v = .bool (before a b) ∧ Below w.heap.size w w' := by
  refine ent124 _ _ _ _ ?_
  have ha := a.at; have hb := b.at
  simp (disch := first | omega | exact okFill_t rfl | exact okSize_t rfl | exact fun h => h | (simp only [World.size_alloc, World.size_drew, World.size_setCell, size_fill, bytesW]; omega)) only [go_sem, c124, ha, hb]
  unfold before
  refine ⟨fun h => ?_, fun h => ?_⟩
  · rw [h]; exact ⟨rfl, by (repeat' (first | with_reducible exact Below.refl _ _ | with_reducible assumption | (with_reducible refine Below.drew ?_) | (with_reducible refine Below.alloc ?_ ?_ _) | (with_reducible refine Below.setCell ?_ ?_ _) | (with_reducible refine Below.fill ?_ ?_) | (with_reducible refine Below.via (by assumption) ?_ ?_) | omega | (simp only [World.size_alloc, World.size_drew, World.size_setCell, size_fill, bytesW]; omega)))⟩
  · rw [h]; exact ⟨rfl, by (repeat' (first | with_reducible exact Below.refl _ _ | with_reducible assumption | (with_reducible refine Below.drew ?_) | (with_reducible refine Below.alloc ?_ ?_ _) | (with_reducible refine Below.setCell ?_ ?_ _) | (with_reducible refine Below.fill ?_ ?_) | (with_reducible refine Below.via (by assumption) ?_ ?_) | omega | (simp only [World.size_alloc, World.size_drew, World.size_setCell, size_fill, bytesW]; omega)))⟩
def Pure (l : List OpT) : Prop := ∀ a ∈ l, ∀ b ∈ l, a.ID = b.ID → a = b
structure Seg where
  obj : Int
  kind : Int
  ops : List OpT
deriving DecidableEq
def segR (w : World) (s : Seg) (c : List Value) : Prop := ∃ v, c = [.int .i64 s.obj, .int .i64 s.kind, v] ∧ RdS w 11 OpT.enc v s.ops ∧ (s.ops.length : Int) ≤ 9223372036854775806
theorem segR.below {w w' : World} (hb : Below w.heap.size w w') (s : Seg) (c : List Value) (h : segR w s c) : segR w' s c := by
  obtain ⟨v, rfl, h1, h2⟩ := h
  exact ⟨v, rfl, h1.below hb (by decide), h2⟩
end Go.Proofs.YtmdhcpghofadcaaGreat

namespace Go.Proofs.YtmdhcpghofadcaaGreat
set_option linter.unusedSimpArgs false
set_option linter.unusedVariables false
set_option maxRecDepth 100000
open Go Go.Ann Go.RowKit
def Tells (w : World) (fv : Value) (p : OpT → Bool) : Prop := ∀ x w', Below w.heap.size w w' → callW Tryz.prog fv [.agg x.enc.toArray] w' fun u w'' => u = .bool (p x) ∧ Below w'.heap.size w' w''
def firstI (p : OpT → Bool) (l : List OpT) : Int := match l.findIdx? p with | some i => i | none => -1
theorem firstI_at {p : OpT → Bool} {l : List OpT} {k : Nat} (h : k < l.length) (hp : p l[k] = true) (hb : ∀ j, (h : j < l.length) → j < k → p l[j] = false) : firstI p l = k := by
  unfold firstI
  rw [List.findIdx?_eq_some_iff_getElem.2 ⟨h, hp, fun j hj => by rw [hb j (by omega) hj]; decide⟩]
theorem firstI_none {p : OpT → Bool} {l : List OpT} (hb : ∀ j, (h : j < l.length) → p l[j] = false) : firstI p l = -1 := by
  unfold firstI
  rw [List.findIdx?_eq_none_iff.2 fun x hx => by obtain ⟨j, hj, rfl⟩ := List.mem_iff_getElem.1 hx; exact hb j hj]
theorem firstI_any {p : OpT → Bool} {l : List OpT} : decide (0 ≤ firstI p l) = l.any p := by
  rcases h : l.any p with _ | _
  · rw [firstI_none fun j hj => by simpa using (List.any_eq_false.1 h) _ (List.getElem_mem hj)]; decide
  · unfold firstI
    cases e : l.findIdx? p with
    | none => rw [List.findIdx?_eq_none_iff] at e; obtain ⟨x, hx, hp⟩ := List.any_eq_true.1 h; rw [e x hx] at hp; cases hp
    | some i => exact decide_eq_true (by show (0 : Int) ≤ (i : Int); omega)
theorem indexFunc_ok (fv : Value) (p : OpT → Bool) (v : Value) (l : List OpT) (w : World) (h : RdS w 11 OpT.enc v l) (hf : Tells w fv p) (hl : (l.length : Int) ≤ 9223372036854775806) :
    Ret Tryz.prog 60 [v, fv] w fun u w' => u = .int .i64 (firstI p l) ∧ Below w.heap.size w w' := by
  obtain ⟨a, c, rfl, _⟩ := h.form
  refine ent60 _ _ _ _ ?_
  simp (disch := first | omega | exact okFill_t rfl | exact okSize_t rfl | exact fun h => h | (simp only [World.size_alloc, World.size_drew, World.size_setCell, size_fill, bytesW]; omega)) only [go_sem, c60, c60S0, c60S1, c60S2, c60L0, c60S3]
  refine W_loopU (fun k : Nat => [(8, .int .i64 k)]) (fun k w' => Below w.heap.size w w' ∧ k ≤ l.length ∧ ∀ j, (h : j < l.length) → j < k → p l[j] = false) (fun k => l.length - k) 0 rfl ⟨Below.refl _ _, Nat.zero_le _, fun j _ h => by omega⟩ ?_
  rintro k w1 ⟨hw, hk, he⟩
  by_cases hlt : k < l.length
  · obtain ⟨q, rfl⟩ := h.ptr (by omega)
    have ek := h.eltB hw OpT.len (by decide) hlt
    have ck := cellsO_below hw (h.at OpT.len hlt)
    have hlt' : (k : Int) < l.length := by omega
    simp (disch := first | omega | exact okFill_t rfl | exact okSize_t rfl | exact fun h => h | (simp only [World.size_alloc, World.size_drew, World.size_setCell, size_fill, bytesW]; omega)) only [go_sem, c60, c60S0, c60S1, c60S2, c60L0, c60S3, hlt', ck, ek]
    refine ⟨by omega, callW_mono (hf _ _ hw) ?_⟩
    rintro _ w2 ⟨rfl, hb⟩
    simp (disch := first | omega | exact okFill_t rfl | exact okSize_t rfl | exact fun h => h | (simp only [World.size_alloc, World.size_drew, World.size_setCell, size_fill, bytesW]; omega)) only [go_sem, c60, c60S0, c60S1, c60S2, c60L0, c60S3, hlt']
    have hwt := hw.trans (hb.mono hw.size)
    refine ⟨fun hp => ⟨(firstI_at hlt hp he).symm, hwt⟩, fun hp => ⟨⟨by omega, by omega⟩, k + 1, rfl, ⟨hwt, by omega, fun j h1 h2 => ?_⟩, by omega⟩⟩
    rcases Nat.lt_or_ge j k with h' | h'
    · exact he j h1 h'
    · obtain rfl : j = k := by omega
      exact hp
  · have hlt' : ¬ (k : Int) < l.length := by omega
    simp (disch := first | omega | exact okFill_t rfl | exact okSize_t rfl | exact fun h => h | (simp only [World.size_alloc, World.size_drew, World.size_setCell, size_fill, bytesW]; omega)) only [go_sem, c60, c60S0, c60S1, c60S2, c60L0, c60S3, hlt']
    exact ⟨(firstI_none fun j h => he j h (by omega)).symm, hw⟩
theorem containsFunc_ok (fv : Value) (p : OpT → Bool) (v : Value) (l : List OpT) (w : World) (h : RdS w 11 OpT.enc v l) (hf : Tells w fv p) (hl : (l.length : Int) ≤ 9223372036854775806) :
    Ret Tryz.prog 64 [v, fv] w fun u w' => u = .bool (l.any p) ∧ Below w.heap.size w w' := by
  refine ent64 _ _ _ _ ?_
  simp (disch := first | omega | exact okFill_t rfl | exact okSize_t rfl | exact fun h => h | (simp only [World.size_alloc, World.size_drew, World.size_setCell, size_fill, bytesW]; omega)) only [go_sem, c64, c64S0]
  refine Ret.mono (indexFunc_ok _ p _ _ _ h hf hl) ?_
  rintro _ w1 ⟨rfl, hb⟩
  simp (disch := first | omega | exact okFill_t rfl | exact okSize_t rfl | exact fun h => h | (simp only [World.size_alloc, World.size_drew, World.size_setCell, size_fill, bytesW]; omega)) only [go_sem, c64, c64S0]
  exact ⟨firstI_any, hb⟩
theorem quiet1_ok (o x : OpT) (b : Nat) (w : World) (h : Blk w b o.enc.toArray 56) :
    Ret Tryz.prog 123 [.agg x.enc.toArray, .pointer (some ⟨b, 0, none⟩)] w fun u w' => u = .bool (!before x o) ∧ Below w.heap.size w w' := by
  refine ent123 _ _ _ _ ?_
  have hr := (h.alloc (.cells x.enc.toArray 56)).rules
  have hlt := h.lt
  simp (disch := first | omega | exact okFill_t rfl | exact okSize_t rfl | exact fun h => h | (simp only [World.size_alloc, World.size_drew, World.size_setCell, size_fill, bytesW]; omega)) only [go_sem, c123, c123S0, hr]
  refine Ret.mono (before_ok x o _) ?_
  rintro _ w1 ⟨rfl, hb⟩
  simp (disch := first | omega | exact okFill_t rfl | exact okSize_t rfl | exact fun h => h | (simp only [World.size_alloc, World.size_drew, World.size_setCell, size_fill, bytesW]; omega)) only [go_sem, c123, c123S0, hr]
  (repeat' (first | with_reducible exact Below.refl _ _ | with_reducible assumption | (with_reducible refine Below.drew ?_) | (with_reducible refine Below.alloc ?_ ?_ _) | (with_reducible refine Below.setCell ?_ ?_ _) | (with_reducible refine Below.fill ?_ ?_) | (with_reducible refine Below.via (by assumption) ?_ ?_) | omega | (simp only [World.size_alloc, World.size_drew, World.size_setCell, size_fill, bytesW]; omega)))
theorem quiet_ok (v : Value) (l : List OpT) (o : OpT) (w : World) (h : RdS w 11 OpT.enc v l) (hl : (l.length : Int) ≤ 9223372036854775806) :
    Ret Tryz.prog 84 [v, .agg o.enc.toArray] w fun u w' => u = .bool (l.all fun x => before x o) ∧ Below w.heap.size w w' := by
  obtain ⟨a, c, rfl, _⟩ := h.form
  refine ent84 _ _ _ _ ?_
  simp (disch := first | omega | exact okFill_t rfl | exact okSize_t rfl | exact fun h => h | (simp only [World.size_alloc, World.size_drew, World.size_setCell, size_fill, bytesW]; omega)) only [go_sem, c84, c84S0]
  refine Ret.mono (containsFunc_ok _ (fun x => !before x o) _ _ _ (h.below ((Below.refl _ _).alloc (Nat.le_refl _) _) (by decide)) ?_ hl) ?_
  · intro x w' hb
    exact callW_go ⟨by kernel_rfl, quiet1_ok o x _ w' (Blk.new.below hb (by rw [World.size_alloc]; omega))⟩
  rintro _ w1 ⟨rfl, hb⟩
  simp (disch := first | omega | exact okFill_t rfl | exact okSize_t rfl | exact fun h => h | (simp only [World.size_alloc, World.size_drew, World.size_setCell, size_fill, bytesW]; omega)) only [go_sem, c84, c84S0]
  refine ⟨?_, by (repeat' (first | with_reducible exact Below.refl _ _ | with_reducible assumption | (with_reducible refine Below.drew ?_) | (with_reducible refine Below.alloc ?_ ?_ _) | (with_reducible refine Below.setCell ?_ ?_ _) | (with_reducible refine Below.fill ?_ ?_) | (with_reducible refine Below.via (by assumption) ?_ ?_) | omega | (simp only [World.size_alloc, World.size_drew, World.size_setCell, size_fill, bytesW]; omega)))⟩
  rw [List.not_all_eq_any_not]
theorem isNaN_ok (a : Int) (w : World) : Ret Tryz.prog 116 [.int .i64 a] w fun u w' => u = .bool false ∧ w' = w := by
  refine ent116 _ _ _ ?_
  simp (disch := first | omega | exact okFill_t rfl | exact okSize_t rfl | exact fun h => h | (simp only [World.size_alloc, World.size_drew, World.size_setCell, size_fill, bytesW]; omega)) only [go_sem, c116]
def cmpI (a b : Int) : Int := if a < b then -1 else if b < a then 1 else 0
theorem compare_ok (a b : Int) (w : World) : Ret Tryz.prog 74 [.int .i64 a, .int .i64 b] w fun u w' => u = .int .i64 (cmpI a b) ∧ w' = w := by
  refine ent74 _ _ _ _ ?_
  simp (disch := first | omega | exact okFill_t rfl | exact okSize_t rfl | exact fun h => h | (simp only [World.size_alloc, World.size_drew, World.size_setCell, size_fill, bytesW]; omega)) only [go_sem, c74, c74S0, c74S1, c74S2, c74S3, c74S4, c74S5, c74S6]
  refine Ret.mono (isNaN_ok _ _) ?_
  rintro _ _ ⟨rfl, rfl⟩
  simp (disch := first | omega | exact okFill_t rfl | exact okSize_t rfl | exact fun h => h | (simp only [World.size_alloc, World.size_drew, World.size_setCell, size_fill, bytesW]; omega)) only [go_sem, c74, c74S0, c74S1, c74S2, c74S3, c74S4, c74S5, c74S6]
  refine Ret.mono (isNaN_ok _ _) ?_
  rintro _ _ ⟨rfl, rfl⟩
  simp (disch := first | omega | exact okFill_t rfl | exact okSize_t rfl | exact fun h => h | (simp only [World.size_alloc, World.size_drew, World.size_setCell, size_fill, bytesW]; omega)) only [go_sem, c74, c74S0, c74S1, c74S2, c74S3, c74S4, c74S5, c74S6]
  unfold cmpI
  refine ⟨fun h => by rw [if_pos h], fun h => ⟨fun h2 => by rw [if_neg (by omega), if_pos h2], fun h2 => by rw [if_neg (by omega), if_neg (by omega)]⟩⟩
theorem clone_ok (v : Value) (l : List OpT) (w : World) (h : RdS w 11 OpT.enc v l) (hl : l.length ≤ 100) :
    Ret Tryz.prog 77 [v] w fun u w' => w'.ownsRow w.heap.size 56 11 u l.length (l.flatMap OpT.enc) ∧ Below w.heap.size w w' := by
  obtain ⟨a, c, rfl, _⟩ := h.form
  refine ent77 _ _ _ ?_
  simp (disch := first | omega | exact okFill_t rfl | exact okSize_t rfl | exact fun h => h | (simp only [World.size_alloc, World.size_drew, World.size_setCell, size_fill, bytesW]; omega)) only [go_sem, c77, c77S0, c77S1]
  have hSt := (St.start (W0 := w)).emptyRow 56 11
  refine ⟨fun ha => ?_, fun ha => bsW_none ty22mkI ?_⟩
  · cases a with
    | some a => cases ha
    | none =>
      have h0 : l = [] := by
        cases l with
        | nil => rfl
        | cons x l => obtain ⟨p, hp⟩ := h.ptr (by simp); cases hp
      subst h0
      exact ⟨⟨rfl, .inl ⟨rfl, rfl⟩⟩, Below.refl _ _⟩
  simp (disch := first | omega | exact okFill_t rfl | exact okSize_t rfl | exact fun h => h | (simp only [World.size_alloc, World.size_drew, World.size_setCell, size_fill, bytesW]; omega)) only [go_sem, c77, c77S0, c77S1]
  refine hSt.append 0 rfl ty22mkI rfl (by decide) (h.below hSt.bel (by decide)) (OpT.ones l) (by omega) (by omega) ?_
  intro v2 w2 s2 _
  have e2 := s2.row 0 rfl
  rw [Nat.zero_add, List.nil_append] at e2
  simp (disch := first | omega | exact okFill_t rfl | exact okSize_t rfl | exact fun h => h | (simp only [World.size_alloc, World.size_drew, World.size_setCell, size_fill, bytesW]; omega)) only [go_sem, c77, c77S0, c77S1]
  exact ⟨e2, s2.bel⟩
theorem find_at {α : Type} {p : α → Bool} : ∀ {l : List α} {k : Nat} (h : k < l.length), p l[k] = true → (∀ j, (h : j < l.length) → j < k → p l[j] = false) → l.find? p = some l[k]
  | a :: l, 0, h, hp, _ => by rw [List.find?_cons_of_pos (by exact hp)]; rfl
  | a :: l, k + 1, h, hp, hb => by
    rw [List.find?_cons_of_neg (by have := hb 0 (by simp) (by omega); exact Bool.eq_false_iff.1 this)]
    exact find_at (l := l) (k := k) (by simpa using h) hp fun j h1 h2 => hb (j + 1) (by simpa using h1) (by omega)
theorem or_ok (v : Value) (l : List Int) (w : World) (h : RdS w 1 (fun n => [.int .i64 n]) v l) (hl : (l.length : Int) ≤ 9223372036854775806) :
    Ret Tryz.prog 73 [v] w fun u w' => u = .int .i64 ((l.find? (· ≠ 0)).getD 0) ∧ w' = w := by
  obtain ⟨a, c, rfl, _⟩ := h.form
  refine ent73 _ _ _ ?_
  simp (disch := first | omega | exact okFill_t rfl | exact okSize_t rfl | exact fun h => h | (simp only [World.size_alloc, World.size_drew, World.size_setCell, size_fill, bytesW]; omega)) only [go_sem, c73, c73S0, c73S1, c73L0, c73S2]
  refine W_loopU (fun k : Nat => [(8, .int .i64 k)]) (fun k w' => w' = w ∧ k ≤ l.length ∧ ∀ j, (h : j < l.length) → j < k → l[j] = 0) (fun k => l.length - k) 0 rfl ⟨rfl, Nat.zero_le _, fun j _ h => by omega⟩ ?_
  rintro k _ ⟨rfl, hk, he⟩
  by_cases hlt : k < l.length
  · obtain ⟨q, rfl⟩ := h.ptr (by omega)
    have ck := h.at1 (e1 := fun n => .int .i64 n) hlt
    have hlt' : (k : Int) < l.length := by omega
    simp (disch := first | omega | exact okFill_t rfl | exact okSize_t rfl | exact fun h => h | (simp only [World.size_alloc, World.size_drew, World.size_setCell, size_fill, bytesW]; omega)) only [go_sem, c73, c73S0, c73S1, c73L0, c73S2, hlt', ck]
    refine ⟨by omega, fun hne => ?_, fun h0 => ⟨⟨by omega, by omega⟩, k + 1, rfl, ⟨by omega, fun j h1 h2 => ?_⟩, by omega⟩⟩
    · rw [find_at hlt (by simpa using hne) fun j h h2 => by simpa using he j h h2]; rfl
    · rcases Nat.lt_or_ge j k with h' | h'
      · exact he j h1 h'
      · obtain rfl : j = k := by omega
        exact h0
  · have hlt' : ¬ (k : Int) < l.length := by omega
    simp (disch := first | omega | exact okFill_t rfl | exact okSize_t rfl | exact fun h => h | (simp only [World.size_alloc, World.size_drew, World.size_setCell, size_fill, bytesW]; omega)) only [go_sem, c73, c73S0, c73S1, c73L0, c73S2, hlt']
    rw [List.find?_eq_none.2 fun x hx => by obtain ⟨j, hj, rfl⟩ := List.mem_iff_getElem.1 hx; simpa using he j hj (by omega)]
    rfl
end Go.Proofs.YtmdhcpghofadcaaGreat

namespace Go.Proofs.YtmdhcpghofadcaaGreat
open Go Go.Proofs Go.Shelf
set_option linter.unusedVariables false
def laySortOps_ren : Go.Shelf.Ren := ⟨fun | 6 => 71 | 15 => 115 | 14 => 114 | 28 => 152 | 29 => 153 | 20 => 144 | 21 => 145 | 22 => 146 | 23 => 147 | 24 => 148 | 25 => 149 | 26 => 150 | 27 => 151 | 46 => 179 | 47 => 180 | 48 => 181 | 49 => 182 | 50 => 183 | 57 => 194 | n => n, fun | 22 => 22 | 24 => 56 | 25 => 125 | 3 => 3 | 39 => 169 | 0 => 0 | 53 => 204 | 55 => 129 | 4 => 4 | 46 => 198 | 45 => 197 | 50 => 181 | 5 => 5 | 9 => 9 | 66 => 222 | 70 => 226 | 76 => 233 | 77 => 127 | n => n, fun | n => n⟩
theorem laySortOps : Go.Proofs.SlLaysF0.n6 Tryz.prog laySortOps_ren := {
    mixed := by kernel_rfl,
    f6 := ⟨Tryz.f71.name, by decide, Tryz.func71.trans (congrArg some (by kernel_rfl))⟩,
    f14 := ⟨Tryz.f114.name, by decide, Tryz.func114.trans (congrArg some (by kernel_rfl))⟩,
    f15 := Tryz.func115.trans (congrArg some (by kernel_rfl)),
    f20 := ⟨Tryz.f144.name, by decide, Tryz.func144.trans (congrArg some (by kernel_rfl))⟩,
    f21 := ⟨Tryz.f145.name, by decide, Tryz.func145.trans (congrArg some (by kernel_rfl))⟩,
    f22 := ⟨Tryz.f146.name, by decide, Tryz.func146.trans (congrArg some (by kernel_rfl))⟩,
    f23 := ⟨Tryz.f147.name, by decide, Tryz.func147.trans (congrArg some (by kernel_rfl))⟩,
    f24 := ⟨Tryz.f148.name, by decide, Tryz.func148.trans (congrArg some (by kernel_rfl))⟩,
    f25 := ⟨Tryz.f149.name, by decide, Tryz.func149.trans (congrArg some (by kernel_rfl))⟩,
    f26 := ⟨Tryz.f150.name, by decide, Tryz.func150.trans (congrArg some (by kernel_rfl))⟩,
    f27 := ⟨Tryz.f151.name, by decide, Tryz.func151.trans (congrArg some (by kernel_rfl))⟩,
    f28 := Tryz.func152.trans (congrArg some (by kernel_rfl)),
    f29 := Tryz.func153.trans (congrArg some (by kernel_rfl)),
    f46 := ⟨Tryz.f179.name, by decide, Tryz.func179.trans (congrArg some (by kernel_rfl))⟩,
    f47 := Tryz.func180.trans (congrArg some (by kernel_rfl)),
    f48 := Tryz.func181.trans (congrArg some (by kernel_rfl)),
    f49 := ⟨Tryz.f182.name, by decide, Tryz.func182.trans (congrArg some (by kernel_rfl))⟩,
    f50 := ⟨Tryz.f183.name, by decide, Tryz.func183.trans (congrArg some (by kernel_rfl))⟩,
    f57 := ⟨Tryz.f194.name, by decide, Tryz.func194.trans (congrArg some (by kernel_rfl))⟩,
    t0 := Tryz.underlying0,
    a0 := Tryz.isAgg0,
    z0 := Tryz.sizeOf0,
    v0 := Tryz.zeroValue0,
    t3 := Tryz.underlying3,
    a3 := Tryz.isAgg3,
    z3 := Tryz.sizeOf3,
    v3 := Tryz.zeroValue3,
    t4 := Tryz.underlying4,
    a4 := Tryz.isAgg4,
    z4 := Tryz.sizeOf4,
    v4 := Tryz.zeroValue4,
    t5 := Tryz.underlying5,
    a5 := Tryz.isAgg5,
    z5 := Tryz.sizeOf5,
    v5 := Tryz.zeroValue5,
    t9 := Tryz.underlying9,
    a9 := Tryz.isAgg9,
    z9 := Tryz.sizeOf9,
    v9 := Tryz.zeroValue9,
    t22 := Tryz.underlying22,
    a22 := Tryz.isAgg22,
    z22 := Tryz.sizeOf22,
    v22 := Tryz.zeroValue22,
    t25 := Tryz.underlying125,
    a25 := Tryz.isAgg125,
    z25 := Tryz.sizeOf125,
    v25 := Tryz.zeroValue125,
    t39 := Tryz.underlying169,
    a39 := Tryz.isAgg169,
    z39 := Tryz.sizeOf169,
    v39 := Tryz.zeroValue169,
    t45 := Tryz.underlying197,
    a45 := Tryz.isAgg197,
    z45 := Tryz.sizeOf197,
    v45 := Tryz.zeroValue197,
    t46 := Tryz.underlying198,
    a46 := Tryz.isAgg198,
    z46 := Tryz.sizeOf198,
    v46 := Tryz.zeroValue198,
    t50 := Tryz.underlying181,
    a50 := Tryz.isAgg181,
    z50 := Tryz.sizeOf181,
    v50 := Tryz.zeroValue181,
    t53 := Tryz.underlying204,
    a53 := Tryz.isAgg204,
    z53 := Tryz.sizeOf204,
    v53 := Tryz.zeroValue204,
    t55 := Tryz.underlying129,
    a55 := Tryz.isAgg129,
    z55 := Tryz.sizeOf129,
    v55 := Tryz.zeroValue129,
    t66 := Tryz.underlying222,
    a66 := Tryz.isAgg222,
    z66 := Tryz.sizeOf222,
    v66 := Tryz.zeroValue222,
    t70 := Tryz.underlying226,
    a70 := Tryz.isAgg226,
    z70 := Tryz.sizeOf226,
    v70 := Tryz.zeroValue226,
    t76 := Tryz.underlying233,
    a76 := Tryz.isAgg233,
    z76 := Tryz.sizeOf233,
    v76 := Tryz.zeroValue233,
    t77 := Tryz.underlying127,
    a77 := Tryz.isAgg127,
    z77 := Tryz.sizeOf127,
    v77 := Tryz.zeroValue127 }
def layRepeat_ren : Go.Shelf.Ren := ⟨fun | 105 => 81 | 212 => 118 | 99 => 119 | 165 => 120 | 166 => 37 | 170 => 121 | 169 => 43 | 263 => 154 | 264 => 155 | 206 => 156 | 240 => 80 | 241 => 157 | 276 => 117 | 277 => 184 | n => n, fun | 9 => 9 | 3 => 3 | 4 => 4 | 20 => 20 | 0 => 0 | 46 => 169 | 109 => 172 | 5 => 5 | 72 => 63 | 76 => 66 | 51 => 204 | 146 => 206 | 53 => 129 | 148 => 208 | 70 => 60 | 37 => 61 | 75 => 65 | 127 => 134 | 164 => 170 | 80 => 73 | n => n, fun | n => n⟩
theorem layRepeat : Go.Proofs.Lays.n105 Tryz.prog layRepeat_ren := {
    mixed := by kernel_rfl,
    f99 := Tryz.func119.trans (congrArg some (by kernel_rfl)),
    f105 := Tryz.func81.trans (congrArg some (by kernel_rfl)),
    f165 := Tryz.func120.trans (congrArg some (by kernel_rfl)),
    f166 := Tryz.func37.trans (congrArg some (by kernel_rfl)),
    f169 := Tryz.func43.trans (congrArg some (by kernel_rfl)),
    f170 := Tryz.func121.trans (congrArg some (by kernel_rfl)),
    f206 := Tryz.func156.trans (congrArg some (by kernel_rfl)),
    f212 := Tryz.func118.trans (congrArg some (by kernel_rfl)),
    f240 := Tryz.func80.trans (congrArg some (by kernel_rfl)),
    f241 := Tryz.func157.trans (congrArg some (by kernel_rfl)),
    f263 := Tryz.func154.trans (congrArg some (by kernel_rfl)),
    f264 := Tryz.func155.trans (congrArg some (by kernel_rfl)),
    f276 := Tryz.func117.trans (congrArg some (by kernel_rfl)),
    f277 := Tryz.func184.trans (congrArg some (by kernel_rfl)),
    t0 := Tryz.underlying0,
    a0 := Tryz.isAgg0,
    z0 := Tryz.sizeOf0,
    v0 := Tryz.zeroValue0,
    t3 := Tryz.underlying3,
    a3 := Tryz.isAgg3,
    z3 := Tryz.sizeOf3,
    v3 := Tryz.zeroValue3,
    t4 := Tryz.underlying4,
    a4 := Tryz.isAgg4,
    z4 := Tryz.sizeOf4,
    v4 := Tryz.zeroValue4,
    t5 := Tryz.underlying5,
    a5 := Tryz.isAgg5,
    z5 := Tryz.sizeOf5,
    v5 := Tryz.zeroValue5,
    t9 := Tryz.underlying9,
    a9 := Tryz.isAgg9,
    z9 := Tryz.sizeOf9,
    v9 := Tryz.zeroValue9,
    t20 := Tryz.underlying20,
    a20 := Tryz.isAgg20,
    z20 := Tryz.sizeOf20,
    v20 := Tryz.zeroValue20,
    t37 := Tryz.underlying61,
    a37 := Tryz.isAgg61,
    z37 := Tryz.sizeOf61,
    v37 := Tryz.zeroValue61,
    t46 := Tryz.underlying169,
    a46 := Tryz.isAgg169,
    z46 := Tryz.sizeOf169,
    v46 := Tryz.zeroValue169,
    t51 := Tryz.underlying204,
    a51 := Tryz.isAgg204,
    z51 := Tryz.sizeOf204,
    v51 := Tryz.zeroValue204,
    t53 := Tryz.underlying129,
    a53 := Tryz.isAgg129,
    z53 := Tryz.sizeOf129,
    v53 := Tryz.zeroValue129,
    t70 := Tryz.underlying60,
    a70 := Tryz.isAgg60,
    z70 := Tryz.sizeOf60,
    v70 := Tryz.zeroValue60,
    t72 := Tryz.underlying63,
    a72 := Tryz.isAgg63,
    z72 := Tryz.sizeOf63,
    v72 := Tryz.zeroValue63,
    t75 := Tryz.underlying65,
    a75 := Tryz.isAgg65,
    z75 := Tryz.sizeOf65,
    v75 := Tryz.zeroValue65,
    t76 := Tryz.underlying66,
    a76 := Tryz.isAgg66,
    z76 := Tryz.sizeOf66,
    v76 := Tryz.zeroValue66,
    t109 := Tryz.underlying172,
    a109 := Tryz.isAgg172,
    z109 := Tryz.sizeOf172,
    v109 := Tryz.zeroValue172,
    t127 := Tryz.underlying134,
    a127 := Tryz.isAgg134,
    z127 := Tryz.sizeOf134,
    v127 := Tryz.zeroValue134,
    t146 := Tryz.underlying206,
    a146 := Tryz.isAgg206,
    z146 := Tryz.sizeOf206,
    v146 := Tryz.zeroValue206,
    t148 := Tryz.underlying208,
    a148 := Tryz.isAgg208,
    z148 := Tryz.sizeOf208,
    v148 := Tryz.zeroValue208,
    t164 := Tryz.underlying170,
    a164 := Tryz.isAgg170,
    z164 := Tryz.sizeOf170,
    v164 := Tryz.zeroValue170 }
def laySortI_ren : Go.Shelf.Ren := ⟨fun | 189 => 112 | 125 => 115 | 257 => 143 | 128 => 152 | 129 => 153 | 294 => 170 | 295 => 171 | 296 => 172 | 297 => 173 | 298 => 174 | 299 => 175 | 216 => 176 | 300 => 177 | 301 => 178 | 328 => 191 | 329 => 180 | 330 => 181 | 331 => 192 | 332 => 193 | 215 => 116 | 343 => 197 | n => n, fun | 28 => 31 | 3 => 3 | 46 => 169 | 0 => 0 | 51 => 204 | 53 => 129 | 4 => 4 | 183 => 198 | 182 => 197 | 131 => 181 | 5 => 5 | 9 => 9 | 218 => 222 | 222 => 226 | 228 => 233 | 229 => 127 | n => n, fun | n => n⟩
theorem laySortI : Go.Proofs.Lays.n189 Tryz.prog laySortI_ren := {
    mixed := by kernel_rfl,
    f125 := Tryz.func115.trans (congrArg some (by kernel_rfl)),
    f128 := Tryz.func152.trans (congrArg some (by kernel_rfl)),
    f129 := Tryz.func153.trans (congrArg some (by kernel_rfl)),
    f189 := Tryz.func112.trans (congrArg some (by kernel_rfl)),
    f215 := Tryz.func116.trans (congrArg some (by kernel_rfl)),
    f216 := Tryz.func176.trans (congrArg some (by kernel_rfl)),
    f257 := Tryz.func143.trans (congrArg some (by kernel_rfl)),
    f294 := Tryz.func170.trans (congrArg some (by kernel_rfl)),
    f295 := Tryz.func171.trans (congrArg some (by kernel_rfl)),
    f296 := Tryz.func172.trans (congrArg some (by kernel_rfl)),
    f297 := Tryz.func173.trans (congrArg some (by kernel_rfl)),
    f298 := Tryz.func174.trans (congrArg some (by kernel_rfl)),
    f299 := Tryz.func175.trans (congrArg some (by kernel_rfl)),
    f300 := Tryz.func177.trans (congrArg some (by kernel_rfl)),
    f301 := Tryz.func178.trans (congrArg some (by kernel_rfl)),
    f328 := Tryz.func191.trans (congrArg some (by kernel_rfl)),
    f329 := Tryz.func180.trans (congrArg some (by kernel_rfl)),
    f330 := Tryz.func181.trans (congrArg some (by kernel_rfl)),
    f331 := Tryz.func192.trans (congrArg some (by kernel_rfl)),
    f332 := Tryz.func193.trans (congrArg some (by kernel_rfl)),
    f343 := Tryz.func197.trans (congrArg some (by kernel_rfl)),
    t0 := Tryz.underlying0,
    a0 := Tryz.isAgg0,
    z0 := Tryz.sizeOf0,
    v0 := Tryz.zeroValue0,
    t3 := Tryz.underlying3,
    a3 := Tryz.isAgg3,
    z3 := Tryz.sizeOf3,
    v3 := Tryz.zeroValue3,
    t4 := Tryz.underlying4,
    a4 := Tryz.isAgg4,
    z4 := Tryz.sizeOf4,
    v4 := Tryz.zeroValue4,
    t5 := Tryz.underlying5,
    a5 := Tryz.isAgg5,
    z5 := Tryz.sizeOf5,
    v5 := Tryz.zeroValue5,
    t9 := Tryz.underlying9,
    a9 := Tryz.isAgg9,
    z9 := Tryz.sizeOf9,
    v9 := Tryz.zeroValue9,
    t28 := Tryz.underlying31,
    a28 := Tryz.isAgg31,
    z28 := Tryz.sizeOf31,
    v28 := Tryz.zeroValue31,
    t46 := Tryz.underlying169,
    a46 := Tryz.isAgg169,
    z46 := Tryz.sizeOf169,
    v46 := Tryz.zeroValue169,
    t51 := Tryz.underlying204,
    a51 := Tryz.isAgg204,
    z51 := Tryz.sizeOf204,
    v51 := Tryz.zeroValue204,
    t53 := Tryz.underlying129,
    a53 := Tryz.isAgg129,
    z53 := Tryz.sizeOf129,
    v53 := Tryz.zeroValue129,
    t131 := Tryz.underlying181,
    a131 := Tryz.isAgg181,
    z131 := Tryz.sizeOf181,
    v131 := Tryz.zeroValue181,
    t182 := Tryz.underlying197,
    a182 := Tryz.isAgg197,
    z182 := Tryz.sizeOf197,
    v182 := Tryz.zeroValue197,
    t183 := Tryz.underlying198,
    a183 := Tryz.isAgg198,
    z183 := Tryz.sizeOf198,
    v183 := Tryz.zeroValue198,
    t218 := Tryz.underlying222,
    a218 := Tryz.isAgg222,
    z218 := Tryz.sizeOf222,
    v218 := Tryz.zeroValue222,
    t222 := Tryz.underlying226,
    a222 := Tryz.isAgg226,
    z222 := Tryz.sizeOf226,
    v222 := Tryz.zeroValue226,
    t228 := Tryz.underlying233,
    a228 := Tryz.isAgg233,
    z228 := Tryz.sizeOf233,
    v228 := Tryz.zeroValue233,
    t229 := Tryz.underlying127,
    a229 := Tryz.isAgg127,
    z229 := Tryz.sizeOf127,
    v229 := Tryz.zeroValue127 }
end Go.Proofs.YtmdhcpghofadcaaGreat

namespace Go.Proofs.YtmdhcpghofadcaaGreat
set_option linter.unusedSimpArgs false
set_option linter.unusedVariables false
set_option maxRecDepth 100000
open Go Go.Ann Go.RowKit
def Gr (w w' : World) : Prop := ∃ q os, w' = Go.Sort.grow (w.drewN q) os
theorem Gr.refl (w : World) : Gr w w := ⟨0, #[], by rw [Go.Sort.grow_empty]; rfl⟩
theorem Gr.alloc {w w' : World} (h : Gr w w') (o : Obj) : Gr w (w'.alloc o) := by
  obtain ⟨q, os, rfl⟩ := h
  exact ⟨q, os ++ #[o], by rw [Go.Sort.alloc_eq_grow, Go.Sort.grow_grow]⟩
theorem Gr.drew {w w' : World} (h : Gr w w') : Gr w w'.drew := by
  obtain ⟨q, os, rfl⟩ := h
  exact ⟨q + 1, os, rfl⟩
theorem Gr.trans {a b c : World} (h : Gr a b) (k : Gr b c) : Gr a c := by
  obtain ⟨q, os, rfl⟩ := h
  obtain ⟨r, ps, rfl⟩ := k
  exact ⟨q + r, os ++ ps, by rw [← Go.Sort.grow_grow]; show Go.Sort.grow (Go.Sort.grow ((a.drewN q).drewN r) os) ps = _; rw [World.drewN_drewN]⟩
theorem Gr.below {w w' : World} (h : Gr w w') : Below w.heap.size w w' := by
  obtain ⟨q, os, rfl⟩ := h
  refine ⟨rfl, rfl, rfl, ?_, fun k hk => ?_⟩
  · show w.heap.size ≤ (w.heap ++ os).size
    rw [Array.size_append]; omega
  · show (w.heap ++ os)[k]? = _
    rw [Array.getElem?_append_left hk]
def orI (l : List Int) : Int := (l.find? fun x => !decide (x = 0)).getD 0
def earI (a b : OpT) : Int := orI [cmpI a.Invoke b.Invoke, cmpI a.ID b.ID]
def objI (a b : OpT) : Int := orI [cmpI a.Object b.Object, earI a b]
theorem chg_da {S : Nat → Prop} {w : World} {o : Obj} : Chg S w.drew (w.alloc o).drew := (Chg.refl S w.drew).alloc o
theorem ints2_new {w : World} {b : Nat} {t : TypeId} (x y : Int) (hb : b = w.heap.size) : RdS (w.alloc (.cells #[.int .i64 x, .int .i64 y] t)) 1 (fun n => [.int .i64 n]) (.slice (some ⟨b, 0, none⟩) 2 2) [x, y] := by
  subst hb
  exact rd_new (n := 2) (cs := #[.int .i64 x, .int .i64 y]) rfl
theorem earlier_ok (a b : OpT) (w : World) : Ret Tryz.prog 79 [.agg a.enc.toArray, .agg b.enc.toArray] w fun u w' => u = .int .i64 (earI a b) ∧ Gr w w' := by
  refine ent79 _ _ _ _ ?_
  have ha := a.at; have hb := b.at
  simp (disch := first | omega | exact okFill_t rfl | exact okSize_t rfl | exact fun h => h | (simp only [World.size_alloc, World.size_drew, World.size_setCell, size_fill, bytesW]; omega)) only [go_sem, c79, c79S0, ha, hb]
  refine c79draw0 (Chg (fun _ => False) _) (Chg.refl _ _) ?_
  simp (disch := first | omega | exact okFill_t rfl | exact okSize_t rfl | exact fun h => h | (simp only [World.size_alloc, World.size_drew, World.size_setCell, size_fill, bytesW]; omega)) only [go_sem, c79, c79S0, c79D0, ha, hb]
  refine Ret.mono (compare_ok _ _ _) ?_
  rintro _ _ ⟨rfl, rfl⟩
  simp (disch := first | omega | exact okFill_t rfl | exact okSize_t rfl | exact fun h => h | (simp only [World.size_alloc, World.size_drew, World.size_setCell, size_fill, bytesW]; omega)) only [go_sem, c79, c79S0, c79D0, ha, hb]
  refine Ret.mono (compare_ok _ _ _) ?_
  rintro _ _ ⟨rfl, rfl⟩
  simp (disch := first | omega | exact okFill_t rfl | exact okSize_t rfl | exact fun h => h | (simp only [World.size_alloc, World.size_drew, World.size_setCell, size_fill, bytesW]; omega)) only [go_sem, c79, c79S0, c79D0, ha, hb]
  refine bsW_ones ty31mkI rfl rfl (by decide) (by decide) (by intro v hv; simp only [List.mem_cons, List.not_mem_nil, or_false] at hv; rcases hv with rfl | rfl <;> rfl) ?_
  simp (disch := first | omega | exact okFill_t rfl | exact okSize_t rfl | exact fun h => h | (simp only [World.size_alloc, World.size_drew, World.size_setCell, size_fill, bytesW]; omega)) only [go_sem, c79, c79S0, c79D0, ha, hb]
  refine ⟨chg_da, Ret.mono (or_ok _ [cmpI a.Invoke b.Invoke, cmpI a.ID b.ID] _ ((ints2_new _ _ (by simp)).below (Below.refl _ _).drew (by decide)) (by simp)) ?_⟩
  rintro _ _ ⟨rfl, rfl⟩
  simp (disch := first | omega | exact okFill_t rfl | exact okSize_t rfl | exact fun h => h | (simp only [World.size_alloc, World.size_drew, World.size_setCell, size_fill, bytesW]; omega)) only [go_sem, c79, c79S0, c79D0, ha, hb]
  exact ⟨chg_da, rfl, (((((Gr.refl w).alloc _).alloc _)).alloc _).drew⟩
theorem object1_ok (a b : OpT) (w : World) : Ret Tryz.prog 78 [.agg a.enc.toArray, .agg b.enc.toArray] w fun u w' => u = .int .i64 (objI a b) ∧ Gr w w' := by
  refine ent78 _ _ _ _ ?_
  have ha := a.at; have hb := b.at
  simp (disch := first | omega | exact okFill_t rfl | exact okSize_t rfl | exact fun h => h | (simp only [World.size_alloc, World.size_drew, World.size_setCell, size_fill, bytesW]; omega)) only [go_sem, c78, c78S0, ha, hb]
  refine c78draw0 (Chg (fun _ => False) _) (Chg.refl _ _) ?_
  simp (disch := first | omega | exact okFill_t rfl | exact okSize_t rfl | exact fun h => h | (simp only [World.size_alloc, World.size_drew, World.size_setCell, size_fill, bytesW]; omega)) only [go_sem, c78, c78S0, c78D0, ha, hb]
  refine Ret.mono (compare_ok _ _ _) ?_
  rintro _ _ ⟨rfl, rfl⟩
  simp (disch := first | omega | exact okFill_t rfl | exact okSize_t rfl | exact fun h => h | (simp only [World.size_alloc, World.size_drew, World.size_setCell, size_fill, bytesW]; omega)) only [go_sem, c78, c78S0, c78D0, ha, hb]
  refine Ret.mono (earlier_ok _ _ _) ?_
  rintro _ w2 ⟨rfl, hg⟩
  simp (disch := first | omega | exact okFill_t rfl | exact okSize_t rfl | exact fun h => h | (simp only [World.size_alloc, World.size_drew, World.size_setCell, size_fill, bytesW]; omega)) only [go_sem, c78, c78S0, c78D0, ha, hb]
  refine ⟨Chg.of_below hg.below, bsW_ones ty31mkI rfl rfl (by decide) (by decide) (by intro v hv; simp only [List.mem_cons, List.not_mem_nil, or_false] at hv; rcases hv with rfl | rfl <;> rfl) ?_⟩
  simp (disch := first | omega | exact okFill_t rfl | exact okSize_t rfl | exact fun h => h | (simp only [World.size_alloc, World.size_drew, World.size_setCell, size_fill, bytesW]; omega)) only [go_sem, c78, c78S0, c78D0, ha, hb]
  refine ⟨(Chg.of_below hg.below).alloc _, Ret.mono (or_ok _ [cmpI a.Object b.Object, earI a b] _ (ints2_new _ _ (by simp)) (by simp)) ?_⟩
  rintro _ _ ⟨rfl, rfl⟩
  simp (disch := first | omega | exact okFill_t rfl | exact okSize_t rfl | exact fun h => h | (simp only [World.size_alloc, World.size_drew, World.size_setCell, size_fill, bytesW]; omega)) only [go_sem, c78, c78S0, c78D0, ha, hb]
  exact ⟨(Chg.of_below hg.below).alloc _, rfl, ((((Gr.refl w).alloc _).alloc _).drew.trans hg).alloc _⟩
end Go.Proofs.YtmdhcpghofadcaaGreat

namespace Go.Proofs.YtmdhcpghofadcaaGreat
set_option linter.unusedSimpArgs false
set_option linter.unusedVariables false
set_option maxRecDepth 100000
open Go Go.Ann Go.RowKit
theorem sortnil1 (fv : Value) (w : World) : Ret Tryz.prog 144 [.slice none 0 0, .int .i64 0, .int .i64 0, fv] w fun u w' => w' = w := by
  refine ent144 _ _ _ _ _ _ ?_
  simp (disch := first | omega | exact okFill_t rfl | exact okSize_t rfl | exact fun h => h | (simp only [World.size_alloc, World.size_drew, World.size_setCell, size_fill, bytesW]; omega)) only [go_sem, c144, c144S0, c144S1, c144S2, c144L0, c144S3, c144S4, c144L1]
  refine ⟨⟨by decide, by decide⟩, ?_⟩
  refine W_loopU (fun _ : Unit => []) (fun _ w' => w' = w) (fun _ => 0) () rfl rfl ?_
  rintro _ _ rfl
  simp (disch := first | omega | exact okFill_t rfl | exact okSize_t rfl | exact fun h => h | (simp only [World.size_alloc, World.size_drew, World.size_setCell, size_fill, bytesW]; omega)) only [go_sem, c144, c144S0, c144S1, c144S2, c144L0, c144S3, c144S4, c144L1]
theorem sortnil2 (fv : Value) (l : Int) (w : World) : Ret Tryz.prog 114 [.slice none 0 0, .int .i64 0, .int .i64 0, .int .i64 l, fv] w fun u w' => w' = w := by
  refine ent114 _ _ _ _ _ _ _ ?_
  simp (disch := first | omega | exact okFill_t rfl | exact okSize_t rfl | exact fun h => h | (simp only [World.size_alloc, World.size_drew, World.size_setCell, size_fill, bytesW]; omega)) only [go_sem, c114, c114S0, c114S1, c114S2, c114S3, c114S4, c114S5, c114S6, c114S7, c114S8, c114S9, c114S10, c114S11, c114S12, c114S13, c114S14, c114S15, c114S16, c114L0]
  refine W_loopU (fun _ : Unit => []) (fun _ w' => w' = w) (fun _ => 0) () rfl rfl ?_
  rintro _ _ rfl
  simp (disch := first | omega | exact okFill_t rfl | exact okSize_t rfl | exact fun h => h | (simp only [World.size_alloc, World.size_drew, World.size_setCell, size_fill, bytesW]; omega)) only [go_sem, c114, c114S0, c114S1, c114S2, c114S3, c114S4, c114S5, c114S6, c114S7, c114S8, c114S9, c114S10, c114S11, c114S12, c114S13, c114S14, c114S15, c114S16, c114L0]
  refine ⟨⟨by decide, by decide⟩, Ret.mono (sortnil1 _ _) ?_⟩
  rintro _ _ rfl
  simp (disch := first | omega | exact okFill_t rfl | exact okSize_t rfl | exact fun h => h | (simp only [World.size_alloc, World.size_drew, World.size_setCell, size_fill, bytesW]; omega)) only [go_sem, c114, c114S0, c114S1, c114S2, c114S3, c114S4, c114S5, c114S6, c114S7, c114S8, c114S9, c114S10, c114S11, c114S12, c114S13, c114S14, c114S15, c114S16, c114L0]
theorem sortnil (fv : Value) (w : World) : Ret Tryz.prog 71 [.slice none 0 0, fv] w fun u w' => w' = w := by
  refine ent71 _ _ _ _ ?_
  have gLen : goFunc Tryz.prog 115 = true := by kernel_rfl
  simp (disch := first | omega | exact okFill_t rfl | exact okSize_t rfl | exact fun h => h | (simp only [World.size_alloc, World.size_drew, World.size_setCell, size_fill, bytesW]; omega)) only [go_sem, c71, gLen]
  have hb := Any.bits_Len (SlLaysF0.n15.bits (P := Tryz.prog) (ρ := laySortOps_ren) { laySortOps with }) 0 w (by omega) (by omega)
  have hb' : Ret Tryz.prog 115 [.int .u64 (IntKind.u64.wrap 0)] w fun u w' => u = .int .i64 (Lib.bitLen 0 : Nat) ∧ w' = w := hb.mono fun e w' ⟨h1, h2⟩ => ⟨_, h1, rfl, h2⟩
  refine Ret.mono hb' ?_
  rintro _ _ ⟨rfl, rfl⟩
  simp (disch := first | omega | exact okFill_t rfl | exact okSize_t rfl | exact fun h => h | (simp only [World.size_alloc, World.size_drew, World.size_setCell, size_fill, bytesW]; omega)) only [go_sem, c71]
  refine Ret.mono (sortnil2 _ _ _) ?_
  rintro _ _ rfl
  simp (disch := first | omega | exact okFill_t rfl | exact okSize_t rfl | exact fun h => h | (simp only [World.size_alloc, World.size_drew, World.size_setCell, size_fill, bytesW]; omega)) only [go_sem, c71]
theorem flatK_eq {α : Type} [Inhabited α] {enc : α → List Value} {k : Nat} (hk : ∀ x, (enc x).length = k) (d : Array α) : (Go.Sort.flatK enc k d).toList = d.toList.flatMap enc := by
  have hl : (d.toList.flatMap enc).length = d.size * k := by
    rw [List.length_flatMap, ← Array.length_toList]
    generalize d.toList = l
    induction l with
    | nil => simp
    | cons a l ih => rw [List.map_cons, List.sum_cons, ih, hk, List.length_cons, Nat.add_mul]; omega
  refine List.ext_getElem (by rw [hl, Array.length_toList, Go.Sort.size_flatK]) fun t h1 h2 => ?_
  have ht : t < d.size * k := by omega
  have hk0 : 0 < k := Nat.pos_of_ne_zero fun h => by subst h; omega
  have hi : t / k < d.size := (Nat.div_lt_iff_lt_mul hk0).2 ht
  have hj : t % k < k := Nat.mod_lt _ hk0
  have a := Go.Sort.get_flatK enc k d t ht
  rw [getElem!_pos d _ hi, getElem!_pos (enc _) _ (by rw [hk]; exact hj), getElem!_pos _ _ (by rw [Go.Sort.size_flatK]; exact ht)] at a
  rw [Array.getElem_toList, a]
  have b := flatten_at (sz := k) (d.toList.map enc) (t / k) (t % k) (enc d[t / k]) ((enc d[t / k])[t % k]'(by rw [hk]; exact hj)) (fun c hc => by obtain ⟨x, _, rfl⟩ := List.mem_map.1 hc; exact hk x) (by rw [List.getElem?_map, List.getElem?_eq_getElem (by simpa using hi)]; rfl) (List.getElem?_eq_getElem _)
  rw [show t / k * k + t % k = t by rw [Nat.mul_comm]; exact Nat.div_add_mod t k] at b
  have c : (d.toList.flatMap enc)[t]? = some ((enc d[t / k])[t % k]'(by rw [hk]; exact hj)) := b
  rw [List.getElem?_eq_getElem h2] at c
  exact (Option.some.inj c).symm
theorem own_holdsK {α : Type} [Inhabited α] {enc : α → List Value} {k B e g n cap : Nat} {w : World} {d : Array α} (hk : ∀ x, (enc x).length = k) (hd : d.size = n) (h : w.ownsRow B e k (.slice (some ⟨g, 0, none⟩) n cap) n (d.toList.flatMap enc)) :
    Go.Sort.HoldsK enc k w g 0 d := by
  obtain ⟨hl, ⟨h0, _⟩ | ⟨g', cap', cur, he, hB, hb, hc, hm, hs, hx⟩⟩ := h
  · cases h0
  cases he
  have hblk : Blk w g cur e := hb
  intro j hj
  rw [Go.Sort.size_flatK] at hj
  have hj' : j < (Go.Sort.flatK enc k d).size := by rw [Go.Sort.size_flatK]; exact hj
  refine ⟨?_, hblk.frozen _⟩
  rw [hblk.cell, Nat.zero_add, getElem!_pos (Go.Sort.flatK enc k d) j hj']
  have e1 := flatK_eq hk d
  rw [← hx] at e1
  have e2 : (Go.Sort.flatK enc k d).toList[j]? = (cur.toList.take (n * k))[j]? := by rw [e1]
  rw [List.getElem?_take_of_lt (by rw [← hd]; exact hj), Array.getElem?_toList, Array.getElem?_toList, Array.getElem?_eq_getElem hj'] at e2
  exact e2.symm
theorem own_sorted {α : Type} [Inhabited α] {enc : α → List Value} {k B e g n cap : Nat} {w : World} {d : Array α} (hk : ∀ x, (enc x).length = k) (hd : d.size = n) (h : w.ownsRow B e k (.slice (some ⟨g, 0, none⟩) n cap) n (d.toList.flatMap enc))
    (m : Nat) (d' : Array α) (os : Array Obj) (hd' : d'.size = n) : (sortWorldK enc k w g 0 m d' os).ownsRow B e k (.slice (some ⟨g, 0, none⟩) n cap) n (d'.toList.flatMap enc) ∧ Chg (fun k => k = g) w (sortWorldK enc k w g 0 m d' os) := by
  obtain ⟨hl, ⟨h0, _⟩ | ⟨g', cap', cur, he, hB, hb, hc, hm, hs, hx⟩⟩ := h
  · cases h0
  cases he
  have hg : g < w.heap.size := (Array.getElem?_eq_some_iff.1 hb).1
  have hh : (sortWorldK enc k w g 0 m d' os).heap = w.heap.modify g (Go.Sort.onCells (Go.Sort.putCells id 0 (Go.Sort.flatK enc k d'))) ++ os := rfl
  have hgb : (sortWorldK enc k w g 0 m d' os).heap[g]? = some (.cells (Go.Sort.putCells id 0 (Go.Sort.flatK enc k d') cur) e (0, 0)) := by
    rw [hh, Array.getElem?_append_left (by rw [Array.size_modify]; exact hg), Array.getElem?_modify, if_pos rfl, hb]
    rfl
  have e1 := flatK_eq hk d'
  have hle : n * k ≤ cap * k := Nat.mul_le_mul_right _ hc
  refine ⟨⟨by rw [← e1, Array.length_toList, Go.Sort.size_flatK, hd'], .inr ⟨g, cap, _, rfl, hB, hgb, hc, hm, by unfold Go.Sort.putCells; rw [Array.size_mapIdx]; exact hs, ?_⟩⟩, rfl, rfl, rfl, ?_, fun j hj hne => ?_⟩
  · rw [← e1]
    refine List.ext_getElem (by simp only [Go.Sort.putCells, List.length_take, Array.length_toList, Array.size_mapIdx, Go.Sort.size_flatK, hs, hd']; omega) fun t h1 h2 => ?_
    rw [Array.length_toList, Go.Sort.size_flatK, hd'] at h2
    rw [List.getElem_take, Array.getElem_toList, Array.getElem_toList]
    unfold Go.Sort.putCells
    rw [Array.getElem_mapIdx, if_pos ⟨Nat.zero_le _, by rw [Go.Sort.size_flatK, hd']; omega⟩, Nat.sub_zero, getElem!_pos (Go.Sort.flatK enc k d') t (by rw [Go.Sort.size_flatK, hd']; exact h2)]
    rfl
  · rw [hh, Array.size_append, Array.size_modify]; omega
  · rw [hh, Array.getElem?_append_left (by rw [Array.size_modify]; exact hj), Array.getElem?_modify, if_neg (fun e => hne e.symm)]
instance : Inhabited OpT := ⟨⟨0, 0, 0, 0, 0, 0, 0, false, 0, 0, 0⟩⟩
def Sorts (cf : OpT → OpT → Int) (l l' : List OpT) : Prop := l'.Perm l ∧ l'.Pairwise fun a b => ¬ cf b a < 0
theorem sort_ok (cf : OpT → OpT → Int) (g : Nat) (eg : ∀ args w, (callFunc g args).run Tryz.prog w = .ok (.enter g args) w) (hO : Go.Sort.SWO (ltOf cf)) (hf : ∀ a b w, Ret Tryz.prog g [.agg a.enc.toArray, .agg b.enc.toArray] w fun u w' => u = .int .i64 (cf a b) ∧ Gr w w')
    (v : Value) (l : List OpT) (w : World) (B : Nat) (h : w.ownsRow B 56 11 v l.length (l.flatMap OpT.enc)) (hl : l.length ≤ 100) :
    Ret Tryz.prog 71 [v, .func (.func g) #[] #[]] w fun _ w' => ∃ l', Sorts cf l l' ∧ w'.ownsRow B 56 11 v l.length (l'.flatMap OpT.enc) ∧ Chg (fun k => v.ownBlock = some k) w w' := by
  obtain ⟨hlen, ⟨rfl, h0⟩ | ⟨g', cap, cur, rfl, hB, hb, hc, hm, hs, hx⟩⟩ := id h
  · refine Ret.mono (sortnil _ _) ?_
    rintro _ _ rfl
    have hl0 : l = [] := List.eq_nil_of_length_eq_zero h0
    subst hl0
    exact ⟨[], ⟨List.Perm.refl _, List.Pairwise.nil⟩, h, Chg.refl _ _⟩
  have hcl : CmpLays Tryz.prog g #[] OpT.enc 11 cf g' 0 l.toArray.size w := fun m os dk hdk x y => by
    have e := hf x y (sortWorldK OpT.enc 11 w g' 0 m dk os)
    unfold Ret at e
    rw [Array.append_empty]
    exact e.mono fun e w' ⟨u, h1, h2, h3⟩ => ⟨by rw [h1, h2], h3⟩
  have hH : Go.Sort.HoldsK OpT.enc 11 w g' 0 l.toArray := own_holdsK OpT.len (by simp) h
  have hs := AnyQ.slices_SortFunc laySortOps 11 Tryz.isAgg56 Tryz.sizeOf56 OpT.enc OpT.len OpT.one cf hO g #[] g' 0 cap l.toArray w eg hcl hH (Array.getElem?_eq_some_iff.1 hb).1 (by simp; omega)
  refine hs.mono ?_
  rintro e w' ⟨rfl, d', n, os, hp, hs, rfl⟩
  have hsz : d'.size = l.length := hp.1
  obtain ⟨o1, o2⟩ := own_sorted OpT.len (by simp) (show w.ownsRow B 56 11 (.slice (some ⟨g', 0, none⟩) l.length cap) l.length (l.toArray.toList.flatMap OpT.enc) from h) n d' os hsz
  refine ⟨_, rfl, d'.toList, ⟨?_, ?_⟩, o1, o2.mono fun k _ e => by rw [e]; rfl⟩
  · have := hp.2.2
    simp only [List.size_toArray] at this
    rw [Array.extract_eq_self_of_le (by omega), Array.extract_eq_self_of_le (by simp)] at this
    exact this
  · rw [List.pairwise_iff_getElem]
    intro i j hi hj hij
    have := hs i j (Nat.zero_le _) hij (by simpa [hsz] using hj)
    rw [getElem!_pos d' i (by simpa using hi), getElem!_pos d' j (by simpa using hj)] at this
    simpa [ltOf] using this
end Go.Proofs.YtmdhcpghofadcaaGreat

namespace Go.Proofs.YtmdhcpghofadcaaGreat
set_option linter.unusedSimpArgs false
set_option linter.unusedVariables false
set_option maxRecDepth 100000
open Go Go.Ann Go.RowKit
theorem orI2_neg (x y : Int) : decide (orI [x, y] < 0) = decide (x < 0 ∨ x = 0 ∧ y < 0) := by
  unfold orI
  by_cases hx : x = 0
  · subst hx
    by_cases hy : y = 0
    · subst hy; simp
    · simp [List.find?_cons, hy]
  · simp [List.find?_cons, hx]
theorem cmpI_neg (a b : Int) : (cmpI a b < 0) = (a < b) := by
  unfold cmpI
  apply propext
  split
  · omega
  · split <;> omega
theorem cmpI_zero (a b : Int) : (cmpI a b = 0) = (a = b) := by
  unfold cmpI
  apply propext
  split
  · omega
  · split <;> omega
theorem lt_ear (a b : OpT) : ltOf earI a b = decide (a.Invoke < b.Invoke ∨ a.Invoke = b.Invoke ∧ a.ID < b.ID) := by
  unfold ltOf earI
  rw [orI2_neg]
  simp only [cmpI_neg, cmpI_zero]
theorem ear_neg (a b : OpT) : (earI a b < 0) = (a.Invoke < b.Invoke ∨ a.Invoke = b.Invoke ∧ a.ID < b.ID) := by
  have := lt_ear a b
  unfold ltOf at this
  exact propext (decide_eq_decide.1 this)
theorem lt_obj (a b : OpT) : ltOf objI a b = decide (a.Object < b.Object ∨ a.Object = b.Object ∧ (a.Invoke < b.Invoke ∨ a.Invoke = b.Invoke ∧ a.ID < b.ID)) := by
  unfold ltOf objI
  rw [orI2_neg]
  simp only [cmpI_neg, cmpI_zero, ear_neg]
theorem obj_neg (a b : OpT) : (objI a b < 0) = (a.Object < b.Object ∨ a.Object = b.Object ∧ (a.Invoke < b.Invoke ∨ a.Invoke = b.Invoke ∧ a.ID < b.ID)) := by
  have := lt_obj a b
  unfold ltOf at this
  exact propext (decide_eq_decide.1 this)
theorem swo_ear : Go.Sort.SWO (ltOf earI) where
  irrefl x := by rw [lt_ear]; exact decide_eq_false (by omega)
  trans x y z h1 h2 := by rw [lt_ear, decide_eq_true_eq] at *; omega
  ntrans x y z h1 h2 := by rw [lt_ear, decide_eq_false_iff_not] at *; omega
theorem swo_obj : Go.Sort.SWO (ltOf objI) where
  irrefl x := by rw [lt_obj]; exact decide_eq_false (by omega)
  trans x y z h1 h2 := by rw [lt_obj, decide_eq_true_eq] at *; omega
  ntrans x y z h1 h2 := by rw [lt_obj, decide_eq_false_iff_not] at *; omega
def cutStep (q : Seg → OpT → Bool) (mk : OpT → Int × Int) (acc : List Seg) (o : OpT) : List Seg :=
  match acc.getLast? with
  | some s => if q s o then acc ++ [⟨(mk o).1, (mk o).2, [o]⟩] else acc.dropLast ++ [⟨s.obj, s.kind, s.ops ++ [o]⟩]
  | none => [⟨(mk o).1, (mk o).2, [o]⟩]
def segC (s : Seg) (v : Value) : List Value := [.int .i64 s.obj, .int .i64 s.kind, v]
def segCells : List Seg → List Value → List Value
  | s :: l, v :: vs => segC s v ++ segCells l vs
  | _, _ => []
def segInvs : List Seg → List Value → List Inv
  | s :: l, v :: vs => .rd 11 OpT.enc v s.ops :: segInvs l vs
  | _, _ => []
theorem segCells_snoc : ∀ (l : List Seg) (vs : List Value) (s : Seg) (v : Value), vs.length = l.length → segCells (l ++ [s]) (vs ++ [v]) = segCells l vs ++ segC s v
  | [], [], s, v, _ => by simp [segCells]
  | a :: l, b :: vs, s, v, h => by simp only [List.cons_append, segCells, List.append_assoc]; rw [segCells_snoc l vs s v (by simpa using h)]
theorem segCells_length : ∀ (l : List Seg) (vs : List Value), vs.length = l.length → (segCells l vs).length = l.length * 3
  | [], [], _ => rfl
  | a :: l, b :: vs, h => by rw [segCells, List.length_append, segCells_length l vs (by simpa using h), List.length_cons]; simp only [segC, List.length_cons, List.length_nil]; omega
theorem segInvs_mem : ∀ (l : List Seg) (vs : List Value) (i : Nat) (s : Seg) (v : Value), l[i]? = some s → vs[i]? = some v → Inv.rd 11 OpT.enc v s.ops ∈ segInvs l vs
  | a :: l, b :: vs, 0, s, v, h1, h2 => by
    simp only [List.getElem?_cons_zero, Option.some.injEq] at h1 h2; subst h1; subst h2
    exact List.mem_cons_self
  | a :: l, b :: vs, i + 1, s, v, h1, h2 => List.mem_cons_of_mem _ (segInvs_mem l vs i s v (by simpa using h1) (by simpa using h2))
theorem segInvs_snoc : ∀ (l : List Seg) (vs : List Value) (s : Seg) (v : Value), vs.length = l.length → ∀ a, a ∈ segInvs (l ++ [s]) (vs ++ [v]) ↔ a = Inv.rd 11 OpT.enc v s.ops ∨ a ∈ segInvs l vs
  | [], [], s, v, _, a => by simp [segInvs]
  | x :: l, b :: vs, s, v, h, a => by simp only [List.cons_append, segInvs, List.mem_cons, segInvs_snoc l vs s v (by simpa using h)]; exact ⟨fun h => h.elim (fun h => .inr (.inl h)) fun h => h.elim .inl fun h => .inr (.inr h), fun h => h.elim (fun h => .inr (.inl h)) fun h => h.elim .inl fun h => .inr (.inr h)⟩
theorem cutStep_nil (q : Seg → OpT → Bool) (mk : OpT → Int × Int) (o : OpT) : cutStep q mk [] o = [⟨(mk o).1, (mk o).2, [o]⟩] := rfl
theorem cutStep_new {q : Seg → OpT → Bool} (mk : OpT → Int × Int) (ini : List Seg) {s : Seg} {o : OpT} (h : q s o = true) : cutStep q mk (ini ++ [s]) o = ini ++ [s] ++ [⟨(mk o).1, (mk o).2, [o]⟩] := by
  unfold cutStep
  rw [List.getLast?_concat]
  simp only [h, if_true]
theorem cutStep_old {q : Seg → OpT → Bool} (mk : OpT → Int × Int) (ini : List Seg) {s : Seg} {o : OpT} (h : q s o = false) : cutStep q mk (ini ++ [s]) o = ini ++ [⟨s.obj, s.kind, s.ops ++ [o]⟩] := by
  unfold cutStep
  rw [List.getLast?_concat, List.dropLast_concat]
  simp only [h]
  rfl
theorem cutStep_flat (q : Seg → OpT → Bool) (mk : OpT → Int × Int) (acc : List Seg) (o : OpT) : (cutStep q mk acc o).flatMap Seg.ops = acc.flatMap Seg.ops ++ [o] := by
  unfold cutStep
  cases h : acc.getLast? with
  | none => rw [List.getLast?_eq_none_iff.1 h]; rfl
  | some s =>
    obtain ⟨ini, rfl⟩ := List.getLast?_eq_some_iff.1 h
    simp only
    split
    · rw [List.flatMap_append]; rfl
    · rw [List.dropLast_concat, List.flatMap_append, List.flatMap_append, List.append_assoc]; simp
theorem cut_flat (q : Seg → OpT → Bool) (mk : OpT → Int × Int) : ∀ (l : List OpT) (acc : List Seg), (l.foldl (cutStep q mk) acc).flatMap Seg.ops = acc.flatMap Seg.ops ++ l
  | [], acc => by simp
  | o :: l, acc => by rw [List.foldl_cons, cut_flat q mk l, cutStep_flat, List.append_assoc]; rfl
theorem cutStep_ne (q : Seg → OpT → Bool) (mk : OpT → Int × Int) (acc : List Seg) (o : OpT) (h : ∀ s ∈ acc, s.ops ≠ []) : ∀ s ∈ cutStep q mk acc o, s.ops ≠ [] := by
  unfold cutStep
  cases hl : acc.getLast? with
  | none => intro s hs; simp only [List.mem_singleton] at hs; subst hs; simp
  | some x =>
    obtain ⟨ini, rfl⟩ := List.getLast?_eq_some_iff.1 hl
    simp only
    split
    · intro s hs
      rcases List.mem_append.1 hs with hs | hs
      · exact h s hs
      · simp only [List.mem_singleton] at hs; subst hs; simp
    · intro s hs
      rw [List.dropLast_concat] at hs
      rcases List.mem_append.1 hs with hs | hs
      · exact h s (List.mem_append_left _ hs)
      · simp only [List.mem_singleton] at hs; subst hs; simp
theorem cut_ne (q : Seg → OpT → Bool) (mk : OpT → Int × Int) : ∀ (l : List OpT) (acc : List Seg), (∀ s ∈ acc, s.ops ≠ []) → ∀ s ∈ l.foldl (cutStep q mk) acc, s.ops ≠ []
  | [], acc, h => h
  | o :: l, acc, h => by rw [List.foldl_cons]; exact cut_ne q mk l _ (cutStep_ne q mk acc o h)
theorem segs_len : ∀ (acc : List Seg), (∀ s ∈ acc, s.ops ≠ []) → acc.length ≤ (acc.flatMap Seg.ops).length
  | [], _ => Nat.zero_le _
  | a :: l, h => by
    have := segs_len l fun s hs => h s (List.mem_cons_of_mem _ hs)
    have ha := List.length_pos_iff.2 (h a List.mem_cons_self)
    rw [List.flatMap_cons, List.length_append, List.length_cons]; omega
theorem seg_len (acc : List Seg) (s : Seg) (h : s ∈ acc) : s.ops.length ≤ (acc.flatMap Seg.ops).length := by
  induction acc with
  | nil => cases h
  | cons a l ih =>
    rw [List.flatMap_cons, List.length_append]
    rcases List.mem_cons.1 h with rfl | h
    · omega
    · have := ih h; omega
def Cuts (W0 w : World) (more : List Res) (I0 : List Inv) (vo : Value) (acc : List Seg) : Prop :=
  (acc = [] ∧ vo = .slice none 0 0 ∧ St W0 w (fun _ => False) more I0) ∨
  ∃ ini s vs vl, acc = ini ++ [s] ∧ vs.length = ini.length ∧ St W0 w (fun _ => False) (.row vl 56 11 s.ops.length (s.ops.flatMap OpT.enc) :: .row vo 51 3 (ini.length + 1) (segCells ini vs ++ segC s vl) :: more) (segInvs ini vs ++ I0)
theorem Cuts.form {W0 w : World} {more : List Res} {I0 : List Inv} {vo : Value} {acc : List Seg} (h : Cuts W0 w more I0 vo acc) : ∃ a c, vo = .slice a acc.length c := by
  rcases h with ⟨rfl, rfl, _⟩ | ⟨ini, s, vs, vl, rfl, _, h⟩
  · exact ⟨_, _, rfl⟩
  · obtain ⟨a, c, rfl, _⟩ := own_slice (h.row 1 rfl)
    exact ⟨a, c, by rw [List.length_append]; rfl⟩
theorem Cuts.bel {W0 w : World} {more : List Res} {I0 : List Inv} {vo : Value} {acc : List Seg} (h : Cuts W0 w more I0 vo acc) : Below W0.heap.size W0 w := by
  rcases h with ⟨_, _, h⟩ | ⟨_, _, _, _, _, _, h⟩ <;> exact h.bel
theorem Cuts.call {W0 w w' : World} {more : List Res} {I0 : List Inv} {vo : Value} {acc : List Seg} (h : Cuts W0 w more I0 vo acc) (hb : Below w.heap.size w w') : Cuts W0 w' more I0 vo acc := by
  rcases h with ⟨h1, h2, h⟩ | ⟨ini, s, vs, vl, h1, h2, h⟩
  · exact .inl ⟨h1, h2, h.call hb⟩
  · exact .inr ⟨ini, s, vs, vl, h1, h2, h.call hb⟩
theorem Cuts.base {W0 w : World} {more : List Res} {I0 : List Inv} {vo : Value} {acc : List Seg} (h : Cuts W0 w more I0 vo acc) : St W0 w (fun _ => False) more I0 := by
  rcases h with ⟨_, _, h⟩ | ⟨_, _, _, _, _, _, h⟩
  · exact h
  · exact (h.sub ((List.sublist_cons_self _ _).trans (List.sublist_cons_self _ _))).inv_sub fun a ha => List.mem_append_right _ ha
theorem Cuts.box {W0 w : World} {more : List Res} {I0 : List Inv} {vo : Value} {acc : List Seg} (h : Cuts W0 w more I0 vo acc) (cs : Array Value) (t : TypeId) : Cuts W0 (w.alloc (.cells cs t)) (.blk w.heap.size cs t :: more) I0 vo acc := by
  rcases h with ⟨h1, h2, h⟩ | ⟨ini, s, vs, vl, h1, h2, h⟩
  · exact .inl ⟨h1, h2, h.box cs t⟩
  · exact .inr ⟨ini, s, vs, vl, h1, h2, (h.box cs t).perm (((List.Perm.swap _ _ _).cons _).trans (List.Perm.swap _ _ _))⟩
theorem Cuts.grow {W0 w : World} {more : List Res} {I0 : List Inv} {vo x : Value} {acc : List Seg} (h : Cuts W0 w more I0 vo acc) (obj kind : Int) (hn : acc.length ≤ 100) (hx : Rd w 3 x 1 (segC ⟨obj, kind, []⟩ (.slice none 0 0))) {K : Value → World → Prop} {cs : Array Bool} {ty : Nat}
    (hK : ∀ v' w', Cuts W0 w' more I0 v' (acc ++ [⟨obj, kind, []⟩]) → K v' w') : rawB Tryz.prog .append #[43, 43] ty cs [vo, x] w K := by
  rcases h with ⟨rfl, rfl, h⟩ | ⟨ini, s, vs, vl, rfl, hl, h⟩
  · have s1 := h.nilRow 51 3
    refine s1.append 0 rfl ty43mkI rfl (by decide) hx (by intro u hu; simp only [segC, List.mem_cons, List.not_mem_nil, or_false] at hu; rcases hu with rfl | rfl | rfl <;> rfl) (by omega) (by omega) ?_
    intro v' w' s2 _
    simp only [List.set_cons_zero] at s2
    exact hK _ _ (.inr ⟨[], _, [], .slice none 0 0, rfl, rfl, s2.nilRow 56 11⟩)
  · rw [List.length_append, List.length_singleton] at hn
    have s1 := h.seal (.rd 11 OpT.enc vl s.ops) (RdS.of_own (h.row 0 rfl)) fun k hk => slFoot_own hk
    refine s1.append 0 rfl ty43mkI rfl (by decide) hx (by intro u hu; simp only [segC, List.mem_cons, List.not_mem_nil, or_false] at hu; rcases hu with rfl | rfl | rfl <;> rfl) (by omega) (by omega) ?_
    intro v' w' s2 _
    simp only [List.set_cons_zero] at s2
    have s3 := (s2.nilRow 56 11).inv_sub (I' := segInvs (ini ++ [s]) (vs ++ [vl]) ++ I0) fun a ha => by
      rcases List.mem_append.1 ha with ha | ha
      · rcases (segInvs_snoc ini vs s vl hl a).1 ha with rfl | ha
        · exact List.mem_cons_self
        · exact List.mem_cons_of_mem _ (List.mem_append_left _ ha)
      · exact List.mem_cons_of_mem _ (List.mem_append_right _ ha)
    rw [← segCells_snoc ini vs s vl hl] at s3
    refine hK _ _ (.inr ⟨ini ++ [s], _, vs ++ [vl], .slice none 0 0, rfl, by simp [hl], ?_⟩)
    rw [List.length_append, List.length_singleton]
    exact s3
theorem segCells_flat : ∀ (l : List Seg) (vs : List Value), (List.zipWith segC l vs).flatten = segCells l vs
  | [], vs => by cases vs <;> rfl
  | a :: l, [] => rfl
  | a :: l, b :: vs => by rw [List.zipWith_cons_cons, List.flatten_cons, segCells_flat l vs]; rfl
theorem Cuts.out {W0 w : World} {more : List Res} {I0 : List Inv} {vo : Value} {acc : List Seg} (h : Cuts W0 w more I0 vo acc) (hs : ∀ s ∈ acc, (s.ops.length : Int) ≤ 9223372036854775806) : RdR w 3 segR vo acc := by
  rcases h with ⟨rfl, rfl, _⟩ | ⟨ini, s, vs, vl, rfl, hl, h⟩
  · exact RdR.nil
  refine ⟨List.zipWith segC (ini ++ [s]) (vs ++ [vl]), by simp [hl], ?_, ?_⟩
  · intro i c x hc hx
    rw [List.getElem?_zipWith, hx] at hc
    cases hv : (vs ++ [vl])[i]? with
    | none => rw [hv] at hc; cases hc
    | some v =>
      rw [hv] at hc
      simp only [Option.some.injEq] at hc
      subst hc
      refine ⟨rfl, v, rfl, ?_, hs x (List.mem_of_getElem? hx)⟩
      rcases Nat.lt_or_ge i ini.length with hi | hi
      · rw [List.getElem?_append_left hi] at hx
        rw [List.getElem?_append_left (by omega)] at hv
        exact (h.inv _ (List.mem_append_left _ (segInvs_mem ini vs i x v hx hv))).1
      · rw [List.getElem?_append_right hi] at hx
        rw [List.getElem?_append_right (by omega), hl] at hv
        have hz : i - ini.length = 0 := by
          have := (List.getElem?_eq_some_iff.1 hx).1
          simp only [List.length_singleton] at this; omega
        rw [hz] at hx hv
        simp only [List.getElem?_cons_zero, Option.some.injEq] at hx hv
        subst hx; subst hv
        exact RdS.of_own (h.row 0 rfl)
  · rw [segCells_flat, segCells_snoc ini vs s vl hl, List.length_append, List.length_singleton]
    exact Rd.of_own (h.row 1 rfl)
theorem own_mono {w : World} {B B' e sz n : Nat} {v : Value} {xs : List Value} (h : w.ownsRow B e sz v n xs) (hb : B' ≤ B) : w.ownsRow B' e sz v n xs := by
  obtain ⟨h1, h2 | ⟨g, cap, cur, h3, h4, h5⟩⟩ := h
  · exact ⟨h1, .inl h2⟩
  · exact ⟨h1, .inr ⟨g, cap, cur, h3, by omega, h5⟩⟩
theorem push16 {W0 w : World} {more : List Res} {I0 : List Inv} {vo : Value} {ini : List Seg} {s : Seg} {Q : Post} (o : OpT) (b : Nat) (v1 v13 v14 v15 : Value) (h : Cuts W0 w (.blk b o.enc.toArray 56 :: more) I0 vo (ini ++ [s])) (hn : ini.length ≤ 100) (hs : s.ops.length ≤ 100)
    (hQ : ∀ w', Cuts W0 w' more I0 vo (ini ++ [⟨s.obj, s.kind, s.ops ++ [o]⟩]) → Q .normal [(1, v1), (4, vo), (13, v13), (14, v14), (15, v15)] w') :
    W Tryz.prog (c42S2 ()) [(1, v1), (4, vo), (6, .pointer (some ⟨b, 0, none⟩)), (7, .int .i64 ini.length), (13, v13), (14, v14), (15, v15)] w Q := by
  rcases h with ⟨h, _⟩ | ⟨ini', s', vs, vl, he, hl, h⟩
  · simp at h
  obtain ⟨rfl, rfl⟩ : ini = ini' ∧ s = s' := by
    have := List.append_inj' he rfl
    exact ⟨this.1, by simpa using this.2⟩
  obtain ⟨a, c, rfl, _⟩ := own_slice (h.row 1 rfl)
  obtain ⟨g, rfl⟩ : ∃ g, a = some ⟨g, 0, none⟩ := by
    obtain ⟨_, ⟨_, h0⟩ | ⟨g, cap, cur, e, _⟩⟩ := h.row 1 rfl
    · omega
    · cases e; exact ⟨g, rfl⟩
  have hrow := (h.row 1 rfl)
  have hlen := segCells_length ini vs hl
  have hc0 : w.cell? ⟨g, ini.length * 3 + 2, none⟩ = some vl := by
    have := hrow.cells rfl (ini.length * 3 + 2) vl (by rw [List.getElem?_append_right (by omega), hlen, show ini.length * 3 + 2 - ini.length * 3 = 2 by omega]; rfl)
    simpa [Addr.add] using this
  have hgl := hrow.lt g rfl
  have hne : vl.ownBlock ≠ some g := h.ne 1 0 rfl rfl (by decide) rfl
  obtain ⟨av, cv, rfl, _⟩ := own_slice (h.row 0 rfl)
  have ho := h.blk 2 rfl
  have hbl := ho.lt
  have hor := ho.rules
  simp (disch := first | omega | exact okFill_t rfl | exact okSize_t rfl | exact fun h => h | (simp only [World.size_alloc, World.size_drew, World.size_setCell, size_fill, bytesW]; omega)) only [go_sem, c42, c42S0, c42S1, c42S2, c42S3, c42S4, c42L0, c42S5, c42S6, c42S7]
  refine c42draw1 (Chg (fun k => (Value.slice av s.ops.length cv).ownBlock = some k) _) (Chg.refl _ _) ?_
  simp (disch := first | omega | exact okFill_t rfl | exact okSize_t rfl | exact fun h => h | (simp only [World.size_alloc, World.size_drew, World.size_setCell, size_fill, bytesW]; omega)) only [go_sem, c42, c42S0, c42S1, c42S2, c42S3, c42S4, c42L0, c42S5, c42S6, c42S7, c42D1, hc0, hor]
  refine ⟨⟨by omega, by omega⟩, bsW_agg ty22mkI rfl (by decide) (by decide) ?_⟩
  have h2 : St W0 (w.alloc (.cells o.enc.toArray 56)).drew _ _ _ := (h.alloc' (.cells o.enc.toArray 56)).drew
  have hrd : Rd (w.alloc (.cells o.enc.toArray 56)).drew 11 (.slice (some ⟨w.heap.size, 0, none⟩) 1 1) 1 o.enc := rd_new (w := w.drew) (t := 56) (sz := 11) (n := 1) (cs := o.enc.toArray) rfl
  simp (disch := first | omega | exact okFill_t rfl | exact okSize_t rfl | exact fun h => h | (simp only [World.size_alloc, World.size_drew, World.size_setCell, size_fill, bytesW]; omega)) only [go_sem, c42, c42S0, c42S1, c42S2, c42S3, c42S4, c42L0, c42S5, c42S6, c42S7, c42D1, hc0, hor]
  refine ⟨chg_da, h2.append 0 rfl ty22mkI rfl (by decide) hrd o.one (by omega) (by omega) ?_⟩
  intro v3 w3 s3 c3
  simp only [List.set_cons_zero] at s3
  obtain ⟨a3, c3', rfl, _⟩ := own_slice (s3.row 0 rfl)
  have s3' := s3.row 1 rfl
  simp (disch := first | omega | exact okFill_t rfl | exact okSize_t rfl | exact fun h => h | (simp only [World.size_alloc, World.size_drew, World.size_setCell, size_fill, bytesW]; omega)) only [go_sem, c42, c42S0, c42S1, c42S2, c42S3, c42S4, c42L0, c42S5, c42S6, c42S7, c42D1, hc0, hor]
  have hc3 : w3.cell? ⟨g, ini.length * 3 + 2, none⟩ = some (.slice av s.ops.length cv) := by
    have := s3'.cells rfl (ini.length * 3 + 2) (.slice av s.ops.length cv) (by rw [List.getElem?_append_right (by omega), hlen, show ini.length * 3 + 2 - ini.length * 3 = 2 by omega]; rfl)
    simpa [Addr.add] using this
  have hf3 : w3.frozen? ⟨g, ini.length * 3 + 2, none⟩ = false := by
    obtain ⟨_, ⟨h0, _⟩ | ⟨g', cap, cur, e, _, hb, _⟩⟩ := s3'
    · cases h0
    · cases e; exact Blk.frozen (show Blk w3 g cur _ from hb) _
  refine ⟨⟨by omega, by omega⟩, ⟨_, hc3⟩, hf3, hQ _ (.inr ⟨ini, _, vs, .slice a3 (s.ops.length + 1) c3', rfl, hl, ?_⟩)⟩
  have s4 := (s3.put 1 rfl (ini.length * 3 + 2) (.slice a3 (s.ops.length + 1) c3')).sub (((List.sublist_cons_self _ _).cons_cons _).cons_cons _)
  rw [List.set_append_right _ _ (by omega), hlen, show ini.length * 3 + 2 - ini.length * 3 = 2 by omega] at s4
  have e1 : (s.ops ++ [o]).flatMap OpT.enc = s.ops.flatMap OpT.enc ++ o.enc := by rw [List.flatMap_append]; simp
  have e2 : (s.ops ++ [o]).length = s.ops.length + 1 := by simp
  show St W0 _ _ (.row _ _ 11 (s.ops ++ [o]).length ((s.ops ++ [o]).flatMap OpT.enc) :: _) _
  rw [e1, e2]
  exact s4
theorem segments_ok (obj kind : Int) (v : Value) (l : List OpT) (w : World) (h : RdS w 11 OpT.enc v l) (hl : l.length ≤ 100) :
    Ret Tryz.prog 42 [.agg #[.int .i64 obj, .int .i64 kind, v]] w fun u w' => (∃ l', Sorts earI l l' ∧ RdR w' 3 segR u (l'.foldl (cutStep (fun s o => s.ops.all fun x => before x o) fun _ => (obj, kind)) [])) ∧ Below w.heap.size w w' := by
  obtain ⟨a, c, rfl, _⟩ := h.form
  refine ent42 _ _ _ ?_
  simp (disch := first | omega | exact okFill_t rfl | exact okSize_t rfl | exact fun h => h | (simp only [World.size_alloc, World.size_drew, World.size_setCell, size_fill, bytesW]; omega)) only [go_sem, c42, c42S0, c42S1, c42S2, c42S3, c42S4, c42L0, c42S5, c42S6, c42S7]
  have s1 := (St.start (W0 := w)).box #[.int .i64 obj, .int .i64 kind, .slice a l.length c] 51
  have h1 := h.below s1.bel (by decide)
  generalize w.alloc (.cells #[.int .i64 obj, .int .i64 kind, .slice a l.length c] 51) = w1 at s1 h1 ⊢
  refine Ret.mono (clone_ok _ _ _ h1 hl) ?_
  rintro vl w2 ⟨o2, b2⟩
  have s2 := s1.add b2 (.row vl 56 11 l.length (l.flatMap OpT.enc)) (own_mono o2 s1.size) fun k hk => (o2.lt k hk).1
  simp (disch := first | omega | exact okFill_t rfl | exact okSize_t rfl | exact fun h => h | (simp only [World.size_alloc, World.size_drew, World.size_setCell, size_fill, bytesW]; omega)) only [go_sem, c42, c42S0, c42S1, c42S2, c42S3, c42S4, c42L0, c42S5, c42S6, c42S7]
  refine Ret.mono (sort_ok earI _ (enters_of Tryz.func79 (by kernel_rfl) rfl) swo_ear earlier_ok vl l w2 _ (s2.row 0 rfl) hl) ?_
  rintro _ w3 ⟨l', hs, o3, c3⟩
  have s3 := s2.upd 0 rfl c3 (.row vl 56 11 l.length (l'.flatMap OpT.enc)) o3 fun k hk => .inl hk
  have hll : l'.length = l.length := hs.1.length_eq
  simp only [List.set_cons_zero] at s3
  have s4 := s3.seal (.rd 11 OpT.enc vl l') (RdS.of_own' (s3.row 0 rfl) l' hll.symm rfl) fun k hk => slFoot_own hk
  obtain ⟨al, cl, rfl, _⟩ := own_slice o3
  simp (disch := first | omega | exact okFill_t rfl | exact okSize_t rfl | exact fun h => h | (simp only [World.size_alloc, World.size_drew, World.size_setCell, size_fill, bytesW]; omega)) only [go_sem, c42, c42S0, c42S1, c42S2, c42S3, c42S4, c42L0, c42S5, c42S6, c42S7]
  refine W_loopU (fun x : Nat × Value => [(4, x.2), (15, .int .i64 x.1)]) (fun x w' => x.1 ≤ l'.length ∧ Cuts w w' [.blk w.heap.size #[.int .i64 obj, .int .i64 kind, .slice a l.length c] 51] [.rd 11 OpT.enc (.slice al l.length cl) l'] x.2 ((l'.take x.1).foldl (cutStep (fun s o => s.ops.all fun x => before x o) fun _ => (obj, kind)) [])) (fun x => l'.length - x.1) (0, .slice none 0 0) rfl ⟨Nat.zero_le _, .inl ⟨rfl, rfl, s4⟩⟩ ?_
  rintro ⟨k, vo⟩ w4 ⟨hk, hc⟩
  simp only at hk hc
  generalize ha : (l'.take k).foldl (cutStep (fun s o => s.ops.all fun x => before x o) fun _ => (obj, kind)) [] = acc at hc
  obtain ⟨ao, co, rfl⟩ := hc.form
  by_cases hlt : k < l'.length
  · have hlt' : (k : Int) < l.length := by omega
    have hstep : (l'.take (k + 1)).foldl (cutStep (fun s o => s.ops.all fun x => before x o) fun _ => (obj, kind)) [] = cutStep (fun s o => s.ops.all fun x => before x o) (fun _ => (obj, kind)) acc l'[k] := by
      rw [List.take_succ_eq_append_getElem hlt, List.foldl_append, ha]; rfl
    have s5 : St w w4 (fun _ => False) [.blk w.heap.size #[.int .i64 obj, .int .i64 kind, .slice a l.length c] 51] [.rd 11 OpT.enc (.slice al l.length cl) l'] := hc.base
    have r5 := s5.rules 0 rfl
    have g5 := s5.get 0 rfl
    have g5' : RdS w4 11 OpT.enc (.slice al l.length cl) l' := g5
    obtain ⟨pl, rfl⟩ := RdS.ptr (by rw [← hll] at g5'; exact g5') (by omega)
    have el := g5'.at OpT.len hlt
    simp (disch := first | omega | exact okFill_t rfl | exact okSize_t rfl | exact fun h => h | (simp only [World.size_alloc, World.size_drew, World.size_setCell, size_fill, bytesW]; omega)) only [go_sem, c42, c42S0, c42S3, c42S4, c42L0, c42S5, c42S6, c42S7, hlt', r5, el]
    have hflat := cut_flat (fun s o => s.ops.all fun x => before x o) (fun _ => (obj, kind)) (l'.take k) []
    have hne := cut_ne (fun s o => s.ops.all fun x => before x o) (fun _ => (obj, kind)) (l'.take k) [] (fun s h => by cases h)
    rw [ha] at hflat hne
    simp only [List.flatMap_nil, List.nil_append] at hflat
    have hlen := segs_len acc hne
    have hfl : (acc.flatMap Seg.ops).length = k := by rw [hflat, List.length_take]; omega
    refine ⟨by omega, rfl, ⟨by omega, by omega⟩, ?_⟩
    have hc6 := hc.box l'[k].enc.toArray 56
    have hw6 := hc6.base.size
    have r6 := hc6.base.rules 1 rfl
    have ho := hc6.base.blk 0 rfl
    generalize w4.heap.size = bo at hc6 ho ⊢
    generalize w4.alloc (.cells l'[k].enc.toArray 56) = w6 at hc6 ho r6 hw6 ⊢
    have ro := ho.rules
    have hw7 := ho.lt
    rcases List.eq_nil_or_concat acc with rfl | ⟨ini, s, hacc⟩
    · refine c42draw0 (Chg (fun _ => False) _) (Chg.refl _ _) ?_
      simp (disch := first | omega | exact okFill_t rfl | exact okSize_t rfl | exact fun h => h | (simp only [World.size_alloc, World.size_drew, World.size_setCell, size_fill, bytesW]; omega)) only [go_sem, c42, c42S0, c42S1, c42S3, c42S4, c42L0, c42S5, c42S6, c42S7, c42D0, r6]
      refine bdW_built (cells := (segC ⟨obj, kind, []⟩ (.slice none 0 0)).toArray) (by kernel_rfl) ?_
      simp (disch := first | omega | exact okFill_t rfl | exact okSize_t rfl | exact fun h => h | (simp only [World.size_alloc, World.size_drew, World.size_setCell, size_fill, bytesW]; omega)) only [go_sem, c42, c42S0, c42S1, c42S3, c42S4, c42L0, c42S5, c42S6, c42S7]
      refine bsW_agg ty43mkI rfl (by decide) (by decide) ?_
      simp (disch := first | omega | exact okFill_t rfl | exact okSize_t rfl | exact fun h => h | (simp only [World.size_alloc, World.size_drew, World.size_setCell, size_fill, bytesW]; omega)) only [go_sem, c42, c42S0, c42S1, c42S3, c42S4, c42L0, c42S5, c42S6, c42S7]
      have hrd : Rd (w6.alloc (.cells (segC ⟨obj, kind, []⟩ (.slice none 0 0)).toArray 51)).drew 3 (.slice (some ⟨w6.heap.size, 0, none⟩) 1 1) 1 (segC ⟨obj, kind, []⟩ (.slice none 0 0)) := rd_new (w := w6.drew) (t := 51) (sz := 3) (n := 1) (cs := (segC ⟨obj, kind, []⟩ (.slice none 0 0)).toArray) rfl
      refine (hc6.call (w' := (w6.alloc (.cells (segC ⟨obj, kind, []⟩ (.slice none 0 0)).toArray 51)).drew) ((Below.refl _ w6).alloc (Nat.le_refl _) _).drew).grow obj kind (by simp) hrd ?_
      intro v8 w8 c8
      simp (disch := first | omega | exact okFill_t rfl | exact okSize_t rfl | exact fun h => h | (simp only [World.size_alloc, World.size_drew, World.size_setCell, size_fill, bytesW]; omega)) only [go_sem, c42, c42S0, c42S1, c42S3, c42S4, c42L0, c42S5, c42S6, c42S7]
      refine ⟨⟨by decide, by decide⟩, push16 (ini := []) l'[k] bo _ _ _ _ c8 (by simp) (by simp) ?_⟩
      intro w9 c9
      simp (disch := first | omega | exact okFill_t rfl | exact okSize_t rfl | exact fun h => h | (simp only [World.size_alloc, World.size_drew, World.size_setCell, size_fill, bytesW]; omega)) only [go_sem, c42, c42S0, c42S1, c42S2, c42S3, c42S4, c42L0, c42S5, c42S6, c42S7]
      refine ⟨⟨by omega, by omega⟩, (k + 1, _), rfl, ⟨by simp only; omega, ?_⟩, by simp only; omega⟩
      simp only
      rw [hstep, cutStep_nil]
      exact c9
    · rw [List.concat_eq_append] at hacc
      subst hacc
      rcases id hc6 with ⟨h0, _⟩ | ⟨ini', s', vs, vl, he, hvl, s6⟩
      · simp at h0
      obtain ⟨rfl, rfl⟩ : ini = ini' ∧ s = s' := by
        have := List.append_inj' he rfl
        exact ⟨this.1, by simpa using this.2⟩
      have hnz : ((ini ++ [s]).length : Int) - 1 = ini.length := by simp
      rw [hnz]
      rw [List.length_append, List.length_singleton] at hc6 s6 ⊢
      obtain ⟨g, rfl⟩ : ∃ g, ao = some ⟨g, 0, none⟩ := by
        obtain ⟨_, ⟨_, h0⟩ | ⟨g, cap, cur, e, _⟩⟩ := s6.row 1 rfl
        · omega
        · cases e; exact ⟨g, rfl⟩
      have hrow := s6.row 1 rfl
      have hsl := segCells_length ini vs hvl
      have hc0 : w6.cell? ⟨g, ini.length * 3 + 2, none⟩ = some vl := by
        have := hrow.cells rfl (ini.length * 3 + 2) vl (by rw [List.getElem?_append_right (by omega), hsl, show ini.length * 3 + 2 - ini.length * 3 = 2 by omega]; rfl)
        simpa [Addr.add] using this
      have hgl := hrow.lt g rfl
      have hil := s6.row 0 rfl
      obtain ⟨av, cv, rfl, _⟩ := own_slice (s6.row 0 rfl)
      refine c42draw0 (Chg (fun _ => False) _) (Chg.refl _ _) ?_
      simp (disch := first | omega | exact okFill_t rfl | exact okSize_t rfl | exact fun h => h | (simp only [World.size_alloc, World.size_drew, World.size_setCell, size_fill, bytesW]; omega)) only [go_sem, c42, c42S0, c42S1, c42S3, c42S4, c42L0, c42S5, c42S6, c42S7, c42D0, r6, ro, hc0]
      have hsl' := seg_len (ini ++ [s]) s (by simp)
      refine ⟨fun _ => ⟨⟨by omega, by omega⟩, Ret.mono (quiet_ok _ s.ops l'[k] _ (RdS.of_own (hil.drew)) (by omega)) ?_⟩, fun h => by omega⟩
      rintro _ w8 ⟨rfl, b8⟩
      have hc8 : Cuts w w8 _ _ _ (ini ++ [s]) := (hc6.call ((Below.refl _ w6).drew)).call b8
      have r8 := hc8.base.rules 1 rfl
      simp (disch := first | omega | exact okFill_t rfl | exact okSize_t rfl | exact fun h => h | (simp only [World.size_alloc, World.size_drew, World.size_setCell, size_fill, bytesW]; omega)) only [go_sem, c42, c42S0, c42S1, c42S3, c42S4, c42L0, c42S5, c42S6, c42S7, c42D0, r6, ro, hc0, r8]
      refine ⟨fun hq => ?_, fun hq => ?_⟩
      · refine bdW_built (cells := (segC ⟨obj, kind, []⟩ (.slice none 0 0)).toArray) (by kernel_rfl) ?_
        simp (disch := first | omega | exact okFill_t rfl | exact okSize_t rfl | exact fun h => h | (simp only [World.size_alloc, World.size_drew, World.size_setCell, size_fill, bytesW]; omega)) only [go_sem, c42, c42S0, c42S1, c42S3, c42S4, c42L0, c42S5, c42S6, c42S7]
        refine bsW_agg ty43mkI rfl (by decide) (by decide) ?_
        simp (disch := first | omega | exact okFill_t rfl | exact okSize_t rfl | exact fun h => h | (simp only [World.size_alloc, World.size_drew, World.size_setCell, size_fill, bytesW]; omega)) only [go_sem, c42, c42S0, c42S1, c42S3, c42S4, c42L0, c42S5, c42S6, c42S7]
        have hrd : Rd (w8.alloc (.cells (segC ⟨obj, kind, []⟩ (.slice none 0 0)).toArray 51)) 3 (.slice (some ⟨w8.heap.size, 0, none⟩) 1 1) 1 (segC ⟨obj, kind, []⟩ (.slice none 0 0)) := rd_new (t := 51) (sz := 3) (n := 1) (cs := (segC ⟨obj, kind, []⟩ (.slice none 0 0)).toArray) rfl
        refine (hc8.call (w' := w8.alloc (.cells (segC ⟨obj, kind, []⟩ (.slice none 0 0)).toArray 51)) ((Below.refl _ w8).alloc (Nat.le_refl _) _)).grow obj kind (by simp; omega) hrd ?_
        intro v9 w9 c9
        simp (disch := first | omega | exact okFill_t rfl | exact okSize_t rfl | exact fun h => h | (simp only [World.size_alloc, World.size_drew, World.size_setCell, size_fill, bytesW]; omega)) only [go_sem, c42, c42S0, c42S1, c42S3, c42S4, c42L0, c42S5, c42S6, c42S7]
        refine ⟨⟨by omega, by omega⟩, ?_⟩
        rw [show (ini.length : Int) + 1 = ((ini ++ [s]).length : Nat) by simp]
        refine push16 (ini := ini ++ [s]) l'[k] bo _ _ _ _ c9 (by simp; omega) (by simp) ?_
        intro w10 c10
        simp (disch := first | omega | exact okFill_t rfl | exact okSize_t rfl | exact fun h => h | (simp only [World.size_alloc, World.size_drew, World.size_setCell, size_fill, bytesW]; omega)) only [go_sem, c42, c42S0, c42S1, c42S2, c42S3, c42S4, c42L0, c42S5, c42S6, c42S7]
        refine ⟨⟨by omega, by omega⟩, (k + 1, _), rfl, ⟨by simp only; omega, ?_⟩, by simp only; omega⟩
        simp only
        rw [hstep, cutStep_new _ _ hq]
        exact c10
      · refine push16 l'[k] bo _ _ _ _ hc8 (by omega) (by omega) ?_
        intro w9 c9
        simp (disch := first | omega | exact okFill_t rfl | exact okSize_t rfl | exact fun h => h | (simp only [World.size_alloc, World.size_drew, World.size_setCell, size_fill, bytesW]; omega)) only [go_sem, c42, c42S0, c42S1, c42S2, c42S3, c42S4, c42L0, c42S5, c42S6, c42S7]
        refine ⟨⟨by omega, by omega⟩, (k + 1, _), rfl, ⟨by simp only; omega, ?_⟩, by simp only; omega⟩
        simp only
        rw [hstep, cutStep_old _ _ hq]
        exact c9
  · have hlt' : ¬ (k : Int) < l.length := by omega
    simp (disch := first | omega | exact okFill_t rfl | exact okSize_t rfl | exact fun h => h | (simp only [World.size_alloc, World.size_drew, World.size_setCell, size_fill, bytesW]; omega)) only [go_sem, c42, c42S0, c42S1, c42S2, c42S3, c42S4, c42L0, c42S5, c42S6, c42S7, hlt']
    have hkl : k = l'.length := by omega
    subst hkl
    rw [List.take_length] at ha
    subst ha
    have hflat := cut_flat (fun s o => s.ops.all fun x => before x o) (fun _ => (obj, kind)) l' []
    refine ⟨⟨l', hs, hc.out fun s hs => ?_⟩, hc.bel⟩
    have h1 := seg_len _ s hs
    rw [hflat] at h1
    simp only [List.flatMap_nil, List.nil_append] at h1
    omega
end Go.Proofs.YtmdhcpghofadcaaGreat

namespace Go.Proofs.YtmdhcpghofadcaaGreat
set_option linter.unusedSimpArgs false
set_option linter.unusedVariables false
set_option maxRecDepth 100000
open Go Go.Ann Go.RowKit
theorem push18 {W0 w : World} {more : List Res} {I0 : List Inv} {vo : Value} {ini : List Seg} {s : Seg} {Q : Post} (o : OpT) (b : Nat) (v11 v12 v13 : Value) (h : Cuts W0 w (.blk b o.enc.toArray 56 :: more) I0 vo (ini ++ [s])) (hn : ini.length ≤ 100) (hs : s.ops.length ≤ 100)
    (hQ : ∀ w', Cuts W0 w' more I0 vo (ini ++ [⟨s.obj, s.kind, s.ops ++ [o]⟩]) → Q .normal [(3, vo), (11, v11), (12, v12), (13, v13)] w') :
    W Tryz.prog (c36S2 ()) [(3, vo), (5, .pointer (some ⟨b, 0, none⟩)), (6, .int .i64 ini.length), (11, v11), (12, v12), (13, v13)] w Q := by
  rcases h with ⟨h, _⟩ | ⟨ini', s', vs, vl, he, hl, h⟩
  · simp at h
  obtain ⟨rfl, rfl⟩ : ini = ini' ∧ s = s' := by
    have := List.append_inj' he rfl
    exact ⟨this.1, by simpa using this.2⟩
  obtain ⟨a, c, rfl, _⟩ := own_slice (h.row 1 rfl)
  obtain ⟨g, rfl⟩ : ∃ g, a = some ⟨g, 0, none⟩ := by
    obtain ⟨_, ⟨_, h0⟩ | ⟨g, cap, cur, e, _⟩⟩ := h.row 1 rfl
    · omega
    · cases e; exact ⟨g, rfl⟩
  have hrow := (h.row 1 rfl)
  have hlen := segCells_length ini vs hl
  have hc0 : w.cell? ⟨g, ini.length * 3 + 2, none⟩ = some vl := by
    have := hrow.cells rfl (ini.length * 3 + 2) vl (by rw [List.getElem?_append_right (by omega), hlen, show ini.length * 3 + 2 - ini.length * 3 = 2 by omega]; rfl)
    simpa [Addr.add] using this
  have hgl := hrow.lt g rfl
  have hne : vl.ownBlock ≠ some g := h.ne 1 0 rfl rfl (by decide) rfl
  obtain ⟨av, cv, rfl, _⟩ := own_slice (h.row 0 rfl)
  have ho := h.blk 2 rfl
  have hbl := ho.lt
  have hor := ho.rules
  simp (disch := first | omega | exact okFill_t rfl | exact okSize_t rfl | exact fun h => h | (simp only [World.size_alloc, World.size_drew, World.size_setCell, size_fill, bytesW]; omega)) only [go_sem, c36, c36S0, c36S1, c36S2, c36S3, c36S4, c36L0, c36S5, c36S6, c36S7]
  refine c36draw1 (Chg (fun k => (Value.slice av s.ops.length cv).ownBlock = some k) _) (Chg.refl _ _) ?_
  simp (disch := first | omega | exact okFill_t rfl | exact okSize_t rfl | exact fun h => h | (simp only [World.size_alloc, World.size_drew, World.size_setCell, size_fill, bytesW]; omega)) only [go_sem, c36, c36S0, c36S1, c36S2, c36S3, c36S4, c36L0, c36S5, c36S6, c36S7, c36D1, hc0, hor]
  refine ⟨⟨by omega, by omega⟩, bsW_agg ty22mkI rfl (by decide) (by decide) ?_⟩
  have h2 : St W0 (w.alloc (.cells o.enc.toArray 56)).drew _ _ _ := (h.alloc' (.cells o.enc.toArray 56)).drew
  have hrd : Rd (w.alloc (.cells o.enc.toArray 56)).drew 11 (.slice (some ⟨w.heap.size, 0, none⟩) 1 1) 1 o.enc := rd_new (w := w.drew) (t := 56) (sz := 11) (n := 1) (cs := o.enc.toArray) rfl
  simp (disch := first | omega | exact okFill_t rfl | exact okSize_t rfl | exact fun h => h | (simp only [World.size_alloc, World.size_drew, World.size_setCell, size_fill, bytesW]; omega)) only [go_sem, c36, c36S0, c36S1, c36S2, c36S3, c36S4, c36L0, c36S5, c36S6, c36S7, c36D1, hc0, hor]
  refine ⟨chg_da, h2.append 0 rfl ty22mkI rfl (by decide) hrd o.one (by omega) (by omega) ?_⟩
  intro v3 w3 s3 c3
  simp only [List.set_cons_zero] at s3
  obtain ⟨a3, c3', rfl, _⟩ := own_slice (s3.row 0 rfl)
  have s3' := s3.row 1 rfl
  simp (disch := first | omega | exact okFill_t rfl | exact okSize_t rfl | exact fun h => h | (simp only [World.size_alloc, World.size_drew, World.size_setCell, size_fill, bytesW]; omega)) only [go_sem, c36, c36S0, c36S1, c36S2, c36S3, c36S4, c36L0, c36S5, c36S6, c36S7, c36D1, hc0, hor]
  have hc3 : w3.cell? ⟨g, ini.length * 3 + 2, none⟩ = some (.slice av s.ops.length cv) := by
    have := s3'.cells rfl (ini.length * 3 + 2) (.slice av s.ops.length cv) (by rw [List.getElem?_append_right (by omega), hlen, show ini.length * 3 + 2 - ini.length * 3 = 2 by omega]; rfl)
    simpa [Addr.add] using this
  have hf3 : w3.frozen? ⟨g, ini.length * 3 + 2, none⟩ = false := by
    obtain ⟨_, ⟨h0, _⟩ | ⟨g', cap, cur, e, _, hb, _⟩⟩ := s3'
    · cases h0
    · cases e; exact Blk.frozen (show Blk w3 g cur _ from hb) _
  refine ⟨⟨by omega, by omega⟩, ⟨_, hc3⟩, hf3, hQ _ (.inr ⟨ini, _, vs, .slice a3 (s.ops.length + 1) c3', rfl, hl, ?_⟩)⟩
  have s4 := (s3.put 1 rfl (ini.length * 3 + 2) (.slice a3 (s.ops.length + 1) c3')).sub (((List.sublist_cons_self _ _).cons_cons _).cons_cons _)
  rw [List.set_append_right _ _ (by omega), hlen, show ini.length * 3 + 2 - ini.length * 3 = 2 by omega] at s4
  have e1 : (s.ops ++ [o]).flatMap OpT.enc = s.ops.flatMap OpT.enc ++ o.enc := by rw [List.flatMap_append]; simp
  have e2 : (s.ops ++ [o]).length = s.ops.length + 1 := by simp
  show St W0 _ _ (.row _ _ 11 (s.ops ++ [o]).length ((s.ops ++ [o]).flatMap OpT.enc) :: _) _
  rw [e1, e2]
  exact s4
theorem objects_ok (v : Value) (l : List OpT) (w : World) (h : RdS w 11 OpT.enc v l) (hl : l.length ≤ 100) :
    Ret Tryz.prog 36 [v] w fun u w' => (∃ l', Sorts objI l l' ∧ RdR w' 3 segR u (l'.foldl (cutStep (fun s o => !decide (s.obj = o.Object)) fun o => (o.Object, o.Kind)) [])) ∧ Below w.heap.size w w' := by
  refine ent36 _ _ _ ?_
  simp (disch := first | omega | exact okFill_t rfl | exact okSize_t rfl | exact fun h => h | (simp only [World.size_alloc, World.size_drew, World.size_setCell, size_fill, bytesW]; omega)) only [go_sem, c36, c36S0, c36S1, c36S2, c36S3, c36S4, c36L0, c36S5, c36S6, c36S7]
  refine Ret.mono (clone_ok _ _ _ h hl) ?_
  rintro vl w2 ⟨o2, b2⟩
  have s2 := (St.start (W0 := w)).add b2 (.row vl 56 11 l.length (l.flatMap OpT.enc)) o2 fun k hk => (o2.lt k hk).1
  simp (disch := first | omega | exact okFill_t rfl | exact okSize_t rfl | exact fun h => h | (simp only [World.size_alloc, World.size_drew, World.size_setCell, size_fill, bytesW]; omega)) only [go_sem, c36, c36S0, c36S1, c36S2, c36S3, c36S4, c36L0, c36S5, c36S6, c36S7]
  refine Ret.mono (sort_ok objI _ (enters_of Tryz.func78 (by kernel_rfl) rfl) swo_obj object1_ok vl l w2 _ (s2.row 0 rfl) hl) ?_
  rintro _ w3 ⟨l', hs, o3, c3⟩
  have s3 := s2.upd 0 rfl c3 (.row vl 56 11 l.length (l'.flatMap OpT.enc)) o3 fun k hk => .inl hk
  have hll : l'.length = l.length := hs.1.length_eq
  simp only [List.set_cons_zero] at s3
  have s4 := s3.seal (.rd 11 OpT.enc vl l') (RdS.of_own' (s3.row 0 rfl) l' hll.symm rfl) fun k hk => slFoot_own hk
  obtain ⟨al, cl, rfl, _⟩ := own_slice o3
  simp (disch := first | omega | exact okFill_t rfl | exact okSize_t rfl | exact fun h => h | (simp only [World.size_alloc, World.size_drew, World.size_setCell, size_fill, bytesW]; omega)) only [go_sem, c36, c36S0, c36S1, c36S2, c36S3, c36S4, c36L0, c36S5, c36S6, c36S7]
  generalize hq0 : (fun (s : Seg) (o : OpT) => !decide (s.obj = o.Object)) = q
  generalize hm0 : (fun (o : OpT) => (o.Object, o.Kind)) = mk
  refine W_loopU (fun x : Nat × Value => [(3, x.2), (13, .int .i64 x.1)]) (fun x w' => x.1 ≤ l'.length ∧ Cuts w w' [] [.rd 11 OpT.enc (.slice al l.length cl) l'] x.2 ((l'.take x.1).foldl (cutStep q mk) [])) (fun x => l'.length - x.1) (0, .slice none 0 0) rfl ⟨Nat.zero_le _, .inl ⟨rfl, rfl, s4⟩⟩ ?_
  rintro ⟨k, vo⟩ w4 ⟨hk, hc⟩
  simp only at hk hc
  generalize ha : (l'.take k).foldl (cutStep q mk) [] = acc at hc
  obtain ⟨ao, co, rfl⟩ := hc.form
  by_cases hlt : k < l'.length
  · have hlt' : (k : Int) < l.length := by omega
    have hstep : (l'.take (k + 1)).foldl (cutStep q mk) [] = cutStep q mk acc l'[k] := by
      rw [List.take_succ_eq_append_getElem hlt, List.foldl_append, ha]; rfl
    have s5 : St w w4 (fun _ => False) [] [.rd 11 OpT.enc (.slice al l.length cl) l'] := hc.base
    have g5 := s5.get 0 rfl
    have g5' : RdS w4 11 OpT.enc (.slice al l.length cl) l' := g5
    obtain ⟨pl, rfl⟩ := RdS.ptr (by rw [← hll] at g5'; exact g5') (by omega)
    have el := g5'.at OpT.len hlt
    simp (disch := first | omega | exact okFill_t rfl | exact okSize_t rfl | exact fun h => h | (simp only [World.size_alloc, World.size_drew, World.size_setCell, size_fill, bytesW]; omega)) only [go_sem, c36, c36S0, c36S3, c36S4, c36L0, c36S5, c36S6, c36S7, hlt', el]
    have hflat := cut_flat q mk (l'.take k) []
    have hne := cut_ne q mk (l'.take k) [] (fun s h => by cases h)
    rw [ha] at hflat hne
    simp only [List.flatMap_nil, List.nil_append] at hflat
    have hlen := segs_len acc hne
    have hfl : (acc.flatMap Seg.ops).length = k := by rw [hflat, List.length_take]; omega
    refine ⟨by omega, rfl, ⟨by omega, by omega⟩, ?_⟩
    have hc6 := hc.box l'[k].enc.toArray 56
    have ho := hc6.base.blk 0 rfl
    generalize w4.heap.size = bo at hc6 ho ⊢
    generalize w4.alloc (.cells l'[k].enc.toArray 56) = w6 at hc6 ho ⊢
    have ro := ho.rules
    have hat := l'[k].at
    have hw7 := ho.lt
    rcases List.eq_nil_or_concat acc with rfl | ⟨ini, s, hacc⟩
    · refine c36draw0 ?_
      simp (disch := first | omega | exact okFill_t rfl | exact okSize_t rfl | exact fun h => h | (simp only [World.size_alloc, World.size_drew, World.size_setCell, size_fill, bytesW]; omega)) only [go_sem, c36, c36S0, c36S1, c36S3, c36S4, c36L0, c36S5, c36S6, c36S7, c36D0, ro, hat]
      obtain ⟨sc, hsc⟩ : ∃ sc, sc = segC ⟨l'[k].Object, l'[k].Kind, []⟩ (.slice none 0 0) := ⟨_, rfl⟩
      refine bdW_built (cells := (segC ⟨l'[k].Object, l'[k].Kind, []⟩ (.slice none 0 0)).toArray) (by kernel_rfl) ?_
      simp (disch := first | omega | exact okFill_t rfl | exact okSize_t rfl | exact fun h => h | (simp only [World.size_alloc, World.size_drew, World.size_setCell, size_fill, bytesW]; omega)) only [go_sem, c36, c36S0, c36S1, c36S3, c36S4, c36L0, c36S5, c36S6, c36S7]
      refine bsW_agg ty43mkI rfl (by decide) (by decide) ?_
      simp (disch := first | omega | exact okFill_t rfl | exact okSize_t rfl | exact fun h => h | (simp only [World.size_alloc, World.size_drew, World.size_setCell, size_fill, bytesW]; omega)) only [go_sem, c36, c36S0, c36S1, c36S3, c36S4, c36L0, c36S5, c36S6, c36S7]
      rw [← hsc]
      have hrd : Rd (w6.alloc (.cells sc.toArray 51)).drew 3 (.slice (some ⟨w6.heap.size, 0, none⟩) 1 1) 1 (segC ⟨l'[k].Object, l'[k].Kind, []⟩ (.slice none 0 0)) := by rw [hsc]; exact rd_new (w := w6.drew) (t := 51) (sz := 3) (n := 1) (cs := (segC ⟨l'[k].Object, l'[k].Kind, []⟩ (.slice none 0 0)).toArray) rfl
      refine (hc6.call (w' := (w6.alloc (.cells sc.toArray 51)).drew) (((Below.refl _ w6).alloc (Nat.le_refl _) _).drew)).grow l'[k].Object l'[k].Kind (by simp; try omega) hrd ?_
      intro v9 w9 c9
      simp (disch := first | omega | exact okFill_t rfl | exact okSize_t rfl | exact fun h => h | (simp only [World.size_alloc, World.size_drew, World.size_setCell, size_fill, bytesW]; omega)) only [go_sem, c36, c36S0, c36S1, c36S3, c36S4, c36L0, c36S5, c36S6, c36S7]
      refine ⟨⟨by omega, by omega⟩, ?_⟩
      refine push18 (ini := []) l'[k] bo _ _ _ c9 (by simp) (by simp) ?_
      intro w10 c10
      simp (disch := first | omega | exact okFill_t rfl | exact okSize_t rfl | exact fun h => h | (simp only [World.size_alloc, World.size_drew, World.size_setCell, size_fill, bytesW]; omega)) only [go_sem, c36, c36S0, c36S1, c36S2, c36S3, c36S4, c36L0, c36S5, c36S6, c36S7]
      refine ⟨⟨by omega, by omega⟩, (k + 1, _), rfl, ⟨by simp only; omega, ?_⟩, by simp only; omega⟩
      simp only
      rw [hstep, cutStep_nil, ← hm0]
      exact c10
    · rw [List.concat_eq_append] at hacc
      subst hacc
      rcases id hc6 with ⟨h0, _⟩ | ⟨ini', s', vs, vl, he, hvl, s6⟩
      · simp at h0
      obtain ⟨rfl, rfl⟩ : ini = ini' ∧ s = s' := by
        have := List.append_inj' he rfl
        exact ⟨this.1, by simpa using this.2⟩
      have hnz : ((ini ++ [s]).length : Int) - 1 = ini.length := by simp
      rw [hnz]
      rw [List.length_append, List.length_singleton] at hc6 s6 ⊢
      obtain ⟨g, rfl⟩ : ∃ g, ao = some ⟨g, 0, none⟩ := by
        obtain ⟨_, ⟨_, h0⟩ | ⟨g, cap, cur, e, _⟩⟩ := s6.row 1 rfl
        · omega
        · cases e; exact ⟨g, rfl⟩
      have hrow := s6.row 1 rfl
      have hsl := segCells_length ini vs hvl
      have hc0 : w6.cell? ⟨g, ini.length * 3, none⟩ = some (.int .i64 s.obj) := by
        have := hrow.cells rfl (ini.length * 3) (.int .i64 s.obj) (by rw [List.getElem?_append_right (by omega), hsl, show ini.length * 3 - ini.length * 3 = 0 by omega]; rfl)
        rw [show Addr.add ⟨g, 0, none⟩ (ini.length * 3) = ⟨g, ini.length * 3, none⟩ by unfold Addr.add; split <;> simp_all] at this
        exact this
      have hgl := hrow.lt g rfl
      have hsl' := seg_len (ini ++ [s]) s (by simp)
      refine c36draw0 ?_
      simp (disch := first | omega | exact okFill_t rfl | exact okSize_t rfl | exact fun h => h | (simp only [World.size_alloc, World.size_drew, World.size_setCell, size_fill, bytesW]; omega)) only [go_sem, c36, c36S0, c36S1, c36S3, c36S4, c36L0, c36S5, c36S6, c36S7, c36D0, ro, hat, hc0]
      refine ⟨fun _ => ⟨⟨by omega, by omega⟩, fun hq => ?_, fun hq => ?_⟩, fun h => by omega⟩
      · have hq' : q s l'[k] = true := by rw [← hq0]; simp [hq]
        obtain ⟨sc, hsc⟩ : ∃ sc, sc = segC ⟨l'[k].Object, l'[k].Kind, []⟩ (.slice none 0 0) := ⟨_, rfl⟩
        refine bdW_built (cells := (segC ⟨l'[k].Object, l'[k].Kind, []⟩ (.slice none 0 0)).toArray) (by kernel_rfl) ?_
        simp (disch := first | omega | exact okFill_t rfl | exact okSize_t rfl | exact fun h => h | (simp only [World.size_alloc, World.size_drew, World.size_setCell, size_fill, bytesW]; omega)) only [go_sem, c36, c36S0, c36S1, c36S3, c36S4, c36L0, c36S5, c36S6, c36S7]
        refine bsW_agg ty43mkI rfl (by decide) (by decide) ?_
        simp (disch := first | omega | exact okFill_t rfl | exact okSize_t rfl | exact fun h => h | (simp only [World.size_alloc, World.size_drew, World.size_setCell, size_fill, bytesW]; omega)) only [go_sem, c36, c36S0, c36S1, c36S3, c36S4, c36L0, c36S5, c36S6, c36S7]
        rw [← hsc]
        have hrd : Rd (w6.alloc (.cells sc.toArray 51)).drew 3 (.slice (some ⟨w6.heap.size, 0, none⟩) 1 1) 1 (segC ⟨l'[k].Object, l'[k].Kind, []⟩ (.slice none 0 0)) := by rw [hsc]; exact rd_new (w := w6.drew) (t := 51) (sz := 3) (n := 1) (cs := (segC ⟨l'[k].Object, l'[k].Kind, []⟩ (.slice none 0 0)).toArray) rfl
        refine (hc6.call (w' := (w6.alloc (.cells sc.toArray 51)).drew) (((Below.refl _ w6).alloc (Nat.le_refl _) _).drew)).grow l'[k].Object l'[k].Kind (by simp; try omega) hrd ?_
        intro v9 w9 c9
        simp (disch := first | omega | exact okFill_t rfl | exact okSize_t rfl | exact fun h => h | (simp only [World.size_alloc, World.size_drew, World.size_setCell, size_fill, bytesW]; omega)) only [go_sem, c36, c36S0, c36S1, c36S3, c36S4, c36L0, c36S5, c36S6, c36S7]
        refine ⟨⟨by omega, by omega⟩, ?_⟩
        rw [show (ini.length : Int) + 1 = ((ini ++ [s]).length : Nat) by simp]
        refine push18 (ini := ini ++ [s]) l'[k] bo _ _ _ c9 (by simp; omega) (by simp) ?_
        intro w10 c10
        simp (disch := first | omega | exact okFill_t rfl | exact okSize_t rfl | exact fun h => h | (simp only [World.size_alloc, World.size_drew, World.size_setCell, size_fill, bytesW]; omega)) only [go_sem, c36, c36S0, c36S1, c36S2, c36S3, c36S4, c36L0, c36S5, c36S6, c36S7]
        refine ⟨⟨by omega, by omega⟩, (k + 1, _), rfl, ⟨by simp only; omega, ?_⟩, by simp only; omega⟩
        simp only
        rw [hstep, cutStep_new _ _ hq', ← hm0]
        exact c10
      · have hq' : q s l'[k] = false := by rw [← hq0]; simp [hq]
        refine push18 l'[k] bo _ _ _ (hc6.call (Below.refl _ w6).drew) (by omega) (by omega) ?_
        intro w10 c10
        simp (disch := first | omega | exact okFill_t rfl | exact okSize_t rfl | exact fun h => h | (simp only [World.size_alloc, World.size_drew, World.size_setCell, size_fill, bytesW]; omega)) only [go_sem, c36, c36S0, c36S1, c36S2, c36S3, c36S4, c36L0, c36S5, c36S6, c36S7]
        refine ⟨⟨by omega, by omega⟩, (k + 1, _), rfl, ⟨by simp only; omega, ?_⟩, by simp only; omega⟩
        simp only
        rw [hstep, cutStep_old _ _ hq']
        exact c10
  · have hlt' : ¬ (k : Int) < l.length := by omega
    simp (disch := first | omega | exact okFill_t rfl | exact okSize_t rfl | exact fun h => h | (simp only [World.size_alloc, World.size_drew, World.size_setCell, size_fill, bytesW]; omega)) only [go_sem, c36, c36S0, c36S1, c36S2, c36S3, c36S4, c36L0, c36S5, c36S6, c36S7, hlt']
    have hkl : k = l'.length := by omega
    subst hkl
    rw [List.take_length] at ha
    subst ha
    have hflat := cut_flat q mk l' []
    subst hq0; subst hm0
    refine ⟨⟨l', hs, hc.out fun s hs => ?_⟩, hc.bel⟩
    have h1 := seg_len _ s hs
    rw [hflat] at h1
    simp only [List.flatMap_nil, List.nil_append] at h1
    omega
end Go.Proofs.YtmdhcpghofadcaaGreat

namespace Go.Proofs.YtmdhcpghofadcaaGreat
set_option linter.unusedSimpArgs false
set_option linter.unusedVariables false
set_option maxRecDepth 100000
open Go Go.Ann Go.RowKit
def leq (a b : OpT) : Bool := decide (a.Invoke < b.Invoke ∨ a.Invoke = b.Invoke ∧ a.ID ≤ b.ID)
theorem leq_ear (a b : OpT) : leq a b = true ↔ ¬ earI b a < 0 := by
  unfold leq
  rw [ear_neg, decide_eq_true_eq]
  omega
theorem sorts_ins {r : List OpT} {o : OpT} {n : Nat} (hs : r.Pairwise fun a b => ¬ earI b a < 0) (h1 : ∀ j, (h : j < r.length) → j < n → leq r[j] o = true) (h2 : (h : n < r.length) → leq r[n] o = false) : (r.take n ++ [o] ++ r.drop n).Pairwise fun a b => ¬ earI b a < 0 := by
  have tr : ∀ x y z : OpT, ¬ earI y x < 0 → ¬ earI z y < 0 → ¬ earI z x < 0 := fun x y z a b => by rw [ear_neg] at *; omega
  rw [List.append_assoc, List.pairwise_append]
  have hpre : ∀ a ∈ r.take n, leq a o = true := fun a ha => by
    obtain ⟨j, hj, rfl⟩ := List.mem_iff_getElem.1 ha
    rw [List.length_take] at hj
    rw [List.getElem_take]
    exact h1 j (by omega) (by omega)
  have hpost : ∀ b ∈ r.drop n, ¬ earI b o < 0 := fun b hb => by
    obtain ⟨j, hj, rfl⟩ := List.mem_iff_getElem.1 hb
    rw [List.length_drop] at hj
    rw [List.getElem_drop]
    have e := h2 (by omega)
    have e' : ¬ leq r[n] o = true := by rw [e]; decide
    rw [leq_ear] at e'
    have e2 : ¬ earI r[n] o < 0 := by rw [ear_neg] at *; omega
    rcases Nat.eq_zero_or_pos j with rfl | hj0
    · exact e2
    · exact tr _ _ _ e2 (List.pairwise_iff_getElem.1 hs n (n + j) (by omega) (by omega) (by omega))
  refine ⟨hs.sublist (List.take_sublist _ _), ?_, fun a ha b hb => ?_⟩
  · rw [List.singleton_append, List.pairwise_cons]
    exact ⟨hpost, hs.sublist (List.drop_sublist _ _)⟩
  · have ha' := (leq_ear _ _).1 (hpre a ha)
    rcases List.mem_append.1 hb with hb | hb
    · simp only [List.mem_singleton] at hb; subst hb; exact ha'
    · exact tr _ _ _ ha' (hpost b hb)
theorem perm_ins {l r : List OpT} {i n : Nat} (hp : r.Perm (l.take i)) (hi : i < l.length) : (r.take n ++ [l[i]] ++ r.drop n).Perm (l.take (i + 1)) := by
  rw [List.take_succ_eq_append_getElem hi]
  have h1 : (r.take n ++ [l[i]] ++ r.drop n).Perm (l[i] :: (r.take n ++ r.drop n)) := by
    rw [List.append_assoc]; exact List.perm_middle
  rw [List.take_append_drop] at h1
  exact h1.trans ((hp.cons _).trans (List.perm_append_singleton _ _).symm)
theorem offA_zero {a : Option Addr} {c sz : Nat} : offA a c 0 sz = a := by
  unfold offA
  rw [Nat.zero_mul]
  split
  · rfl
  · cases a with
    | none => rfl
    | some a => exact congrArg some (by unfold Addr.add; rfl)
theorem rd_take {w : World} {sz n k cap : Nat} {a : Option Addr} {xs : List Value} (h : Rd w sz (.slice a n cap) n xs) (hk : k ≤ n) : Rd w sz (.slice (offA a cap 0 sz) k cap) k (xs.take (k * sz)) := by
  rw [offA_zero]; exact h.take hk
theorem rd_drop {w : World} {sz n k cap : Nat} {a : Option Addr} {xs : List Value} (h : Rd w sz (.slice a n cap) n xs) (hk : k ≤ n) : Rd w sz (.slice (offA a cap k sz) (n - k) (cap - k)) (n - k) (xs.drop (k * sz)) := by
  obtain ⟨h1, a', cap', he, h2, h3⟩ := h
  simp only [Value.slice.injEq, true_and] at he
  obtain ⟨rfl, rfl⟩ := he
  refine ⟨by rw [List.length_drop, h1, Nat.sub_mul], _, _, rfl, by omega, fun h => ?_⟩
  obtain ⟨ad, rfl, h4⟩ := h3 (by omega)
  refine ⟨ad.add (k * sz), by unfold offA; rw [if_neg (by omega)]; rfl, fun j u hu => ?_⟩
  rw [add_add]
  rw [List.getElem?_drop] at hu
  exact h4 _ u hu
theorem take_flat {l : List OpT} {k : Nat} : (l.flatMap OpT.enc).take (k * 11) = (l.take k).flatMap OpT.enc := by
  induction l generalizing k with
  | nil => simp
  | cons a l ih =>
    cases k with
    | zero => simp
    | succ k => rw [List.flatMap_cons, List.take_succ_cons, List.flatMap_cons, show (k + 1) * 11 = a.enc.length + k * 11 by rw [OpT.len]; omega, List.take_length_add_append, ih]
theorem drop_flat {l : List OpT} {k : Nat} : (l.flatMap OpT.enc).drop (k * 11) = (l.drop k).flatMap OpT.enc := by
  induction l generalizing k with
  | nil => simp
  | cons a l ih =>
    cases k with
    | zero => simp
    | succ k => rw [List.flatMap_cons, List.drop_succ_cons, show (k + 1) * 11 = a.enc.length + k * 11 by rw [OpT.len]; omega, List.drop_length_add_append, ih]
theorem ins38 {W0 w : World} {Q : Post} {q : Addr} {c i n co : Nat} {ao : Option Addr} {l r : List OpT} (h : RdS W0 11 OpT.enc (.slice (some q) l.length c) l) (hl : l.length ≤ 100) (hr : r.length ≤ 100) (hi : i < l.length) (hn : n ≤ r.length)
    (s : St W0 w (fun _ => False) [.row (.slice ao r.length co) 56 11 r.length (r.flatMap OpT.enc)] [])
    (hQ : ∀ v' w', St W0 w' (fun _ => False) [.row v' 56 11 (r.take n ++ [l[i]] ++ r.drop n).length ((r.take n ++ [l[i]] ++ r.drop n).flatMap OpT.enc)] [] → Q .normal [(0, .slice (some q) l.length c), (3, v'), (4, .int .i64 i)] w') :
    W Tryz.prog (c58S4 ()) [(0, .slice (some q) l.length c), (3, .slice ao r.length co), (4, .int .i64 i), (5, .int .i64 n)] w Q := by
  simp (disch := first | omega | exact okFill_t rfl | exact okSize_t rfl | exact fun h => h | (simp only [World.size_alloc, World.size_drew, World.size_setCell, size_fill, bytesW]; omega)) only [go_sem, c58, c58S0, c58S1, c58L0, c58S2, c58S3, c58S4, c58S5, c58S6, c58L1, c58S7]
  refine bsW_none ty22mkI ?_
  have s2 := s.emptyRow 56 11
  generalize w.alloc (.cells #[] 56) = w2 at s2 ⊢
  simp (disch := first | omega | exact okFill_t rfl | exact okSize_t rfl | exact fun h => h | (simp only [World.size_alloc, World.size_drew, World.size_setCell, size_fill, bytesW]; omega)) only [go_sem, c58, c58S0, c58S1, c58L0, c58S2, c58S3, c58S4, c58S5, c58S6, c58L1, c58S7]
  have hco : r.length ≤ co := by
    obtain ⟨a', c', e, h⟩ := own_slice (s2.row 1 rfl)
    cases e; exact h
  have e1 : (r.take n).length = n := by rw [List.length_take]; omega
  refine ⟨⟨by omega, by omega⟩, ?_⟩
  refine s2.append 0 rfl ty22mkI rfl (by decide) (rd_take (Rd.of_own (s2.row 1 rfl)) hn) (by rw [take_flat]; exact OpT.ones _) (by omega) (by omega) ?_
  intro v3 w3 s3 _
  simp only [List.set_cons_zero, List.nil_append, take_flat, Nat.zero_add] at s3
  obtain ⟨a3, c3, rfl, _⟩ := own_slice (s3.row 0 rfl)
  have eo := h.eltB s3.bel OpT.len (by decide) hi
  have ato := l[i].at
  have ci := cellsO_below s3.bel (h.at OpT.len hi)
  simp (disch := first | omega | exact okFill_t rfl | exact okSize_t rfl | exact fun h => h | (simp only [World.size_alloc, World.size_drew, World.size_setCell, size_fill, bytesW]; omega)) only [go_sem, c58, c58S0, c58S1, c58L0, c58S2, c58S3, c58S4, c58S5, c58S6, c58L1, c58S7, ci]
  refine ⟨⟨by omega, by omega⟩, bsW_agg ty22mkI rfl (by decide) (by decide) ?_⟩
  have hrd : Rd (w3.alloc (.cells l[i].enc.toArray 56)) 11 (.slice (some ⟨w3.heap.size, 0, none⟩) 1 1) 1 l[i].enc := rd_new (t := 56) (sz := 11) (n := 1) (cs := l[i].enc.toArray) rfl
  have s4 := s3.alloc' (.cells l[i].enc.toArray 56)
  generalize w3.alloc (.cells l[i].enc.toArray 56) = w4 at s4 hrd ⊢
  simp (disch := first | omega | exact okFill_t rfl | exact okSize_t rfl | exact fun h => h | (simp only [World.size_alloc, World.size_drew, World.size_setCell, size_fill, bytesW]; omega)) only [go_sem, c58, c58S0, c58S1, c58L0, c58S2, c58S3, c58S4, c58S5, c58S6, c58L1, c58S7, ci]
  refine s4.append 0 rfl ty22mkI rfl (by decide) hrd l[i].one (by omega) (by omega) ?_
  intro v5 w5 s5 _
  simp only [List.set_cons_zero] at s5
  obtain ⟨a5, c5, rfl, _⟩ := own_slice (s5.row 0 rfl)
  simp (disch := first | omega | exact okFill_t rfl | exact okSize_t rfl | exact fun h => h | (simp only [World.size_alloc, World.size_drew, World.size_setCell, size_fill, bytesW]; omega)) only [go_sem, c58, c58S0, c58S1, c58L0, c58S2, c58S3, c58S4, c58S5, c58S6, c58L1, c58S7]
  refine ⟨⟨by omega, by omega⟩, ?_⟩
  refine s5.append 0 rfl ty22mkI rfl (by decide) (rd_drop (Rd.of_own (s5.row 1 rfl)) hn) (by rw [drop_flat]; exact OpT.ones _) (by omega) (by omega) ?_
  intro v6 w6 s6 _
  simp only [List.set_cons_zero, drop_flat] at s6
  simp (disch := first | omega | exact okFill_t rfl | exact okSize_t rfl | exact fun h => h | (simp only [World.size_alloc, World.size_drew, World.size_setCell, size_fill, bytesW]; omega)) only [go_sem, c58, c58S0, c58S1, c58L0, c58S2, c58S3, c58S4, c58S5, c58S6, c58L1, c58S7]
  refine hQ _ _ ?_
  have s7 := s6.sub (L' := [_]) ((List.nil_sublist _).cons_cons _)
  have el : (r.take n ++ [l[i]] ++ r.drop n).length = n + 1 + (r.length - n) := by
    rw [List.length_append, List.length_append, e1, List.length_drop]; rfl
  have ef : (r.take n ++ [l[i]] ++ r.drop n).flatMap OpT.enc = (r.take n).flatMap OpT.enc ++ l[i].enc ++ (r.drop n).flatMap OpT.enc := by
    rw [List.flatMap_append, List.flatMap_append]; simp
  rw [el, ef]
  exact s7
theorem sorted_ok (v : Value) (l : List OpT) (w : World) (h : RdS w 11 OpT.enc v l) (hl : l.length ≤ 100) :
    Ret Tryz.prog 58 [v] w fun u w' => (∃ r, Sorts earI l r ∧ w'.ownsRow w.heap.size 56 11 u r.length (r.flatMap OpT.enc)) ∧ Below w.heap.size w w' := by
  obtain ⟨a, c, rfl, _⟩ := h.form
  refine ent58 _ _ _ ?_
  simp (disch := first | omega | exact okFill_t rfl | exact okSize_t rfl | exact fun h => h | (simp only [World.size_alloc, World.size_drew, World.size_setCell, size_fill, bytesW]; omega)) only [go_sem, c58, c58S0, c58S1, c58L0, c58S2, c58S3, c58S4, c58S5, c58S6, c58L1, c58S7]
  refine W_loopU (fun x : Nat × Value => [(3, x.2), (4, .int .i64 x.1)]) (fun x w' => x.1 ≤ l.length ∧ ∃ r, Sorts earI (l.take x.1) r ∧ St w w' (fun _ => False) [.row x.2 56 11 r.length (r.flatMap OpT.enc)] []) (fun x => l.length - x.1) (0, .slice none 0 0) rfl ⟨Nat.zero_le _, [], ⟨List.Perm.refl _, List.Pairwise.nil⟩, (St.start (W0 := w)).nilRow 56 11⟩ ?_
  rintro ⟨i, vo⟩ w1 ⟨hi, r, ⟨hp, hs⟩, s1⟩
  simp only at hi hp s1
  have hrl : r.length = i := by rw [hp.length_eq, List.length_take]; omega
  obtain ⟨ao, co, rfl, _⟩ := own_slice (s1.row 0 rfl)
  by_cases hlt : i < l.length
  · have hlt' : (i : Int) < l.length := by omega
    obtain ⟨q, rfl⟩ := h.ptr (by omega)
    simp (disch := first | omega | exact okFill_t rfl | exact okSize_t rfl | exact fun h => h | (simp only [World.size_alloc, World.size_drew, World.size_setCell, size_fill, bytesW]; omega)) only [go_sem, c58, c58S0, c58S1, c58L0, c58S2, c58S3, c58S5, c58S6, c58L1, c58S7, hlt']
    refine W_loopU (fun n : Nat => [(5, .int .i64 n)]) (fun n w' => n ≤ r.length ∧ (∀ j, (h : j < r.length) → j < n → leq r[j] l[i] = true) ∧ St w w' (fun _ => False) [.row (.slice ao r.length co) 56 11 r.length (r.flatMap OpT.enc)] []) (fun n => r.length - n) 0 rfl ⟨Nat.zero_le _, fun j _ h => by omega, s1⟩ ?_
    rintro n w2 ⟨hn, hle, s2⟩
    have eo := h.eltB s2.bel OpT.len (by decide) hlt
    have ato := l[i].at
    by_cases hnr : n < r.length
    · have hnr' : (n : Int) < r.length := by omega
      have hro : RdS w2 11 OpT.enc (.slice ao r.length co) r := RdS.of_own (s2.row 0 rfl)
      obtain ⟨p, rfl⟩ := hro.ptr (by omega)
      have er := hro.elt OpT.len (by decide) hnr
      have atr := r[n].at
      simp (disch := first | omega | exact okFill_t rfl | exact okSize_t rfl | exact fun h => h | (simp only [World.size_alloc, World.size_drew, World.size_setCell, size_fill, bytesW]; omega)) only [go_sem, c58, c58S0, c58S1, c58L0, c58S2, c58S3, c58S5, c58S6, c58L1, c58S7]
      refine c58draw0 ?_
      simp (disch := first | omega | exact okFill_t rfl | exact okSize_t rfl | exact fun h => h | (simp only [World.size_alloc, World.size_drew, World.size_setCell, size_fill, bytesW]; omega)) only [go_sem, c58, c58S0, c58S1, c58L0, c58S2, c58S3, c58S5, c58S6, c58L1, c58S7, c58D0, eo, ato, er, atr, hnr']
      have stp : leq r[n] l[i] = true → (n + 1 ≤ r.length ∧ (∀ (j : Nat) (h : j < r.length), j < n + 1 → leq r[j] l[i] = true) ∧ St w w2.drew (fun _ => False) [.row (.slice (some p) r.length co) 56 11 r.length (r.flatMap OpT.enc)] []) := fun hy => ⟨by omega, fun j h1 h2 => by
        rcases Nat.lt_or_ge j n with h' | h'
        · exact hle j h1 h'
        · obtain rfl : j = n := by omega
          exact hy, s2.drew⟩
      have hy : leq r[n] l[i] = decide (r[n].Invoke < l[i].Invoke ∨ r[n].Invoke = l[i].Invoke ∧ r[n].ID ≤ l[i].ID) := rfl
      refine ⟨by omega, ⟨by omega, by omega⟩, fun e1 => ⟨by omega, ⟨by omega, by omega⟩, fun e2 => ⟨by omega, ⟨by omega, by omega⟩, fun e3 => ⟨⟨by omega, by omega⟩, n + 1, rfl, stp (by rw [hy]; exact decide_eq_true (by omega)), by omega⟩, fun e3 => ?_⟩, fun e2 => ?_⟩, fun e1 => ⟨⟨by omega, by omega⟩, n + 1, rfl, stp (by rw [hy]; exact decide_eq_true (by omega)), by omega⟩⟩
      · have hno : leq r[n] l[i] = false := by rw [hy]; exact decide_eq_false (by omega)
        refine ins38 h hl (by omega) hlt hn s2.drew ?_
        intro v9 w9 s9
        simp (disch := first | omega | exact okFill_t rfl | exact okSize_t rfl | exact fun h => h | (simp only [World.size_alloc, World.size_drew, World.size_setCell, size_fill, bytesW]; omega)) only [go_sem, c58, c58S0, c58S1, c58L0, c58S2, c58S3, c58S4, c58S5, c58S6, c58L1, c58S7]
        refine ⟨⟨by omega, by omega⟩, (i + 1, _), rfl, ⟨by simp only; omega, _, ⟨?_, sorts_ins hs hle fun _ => hno⟩, s9⟩, by simp only; omega⟩
        exact perm_ins hp hlt
      · have hno : leq r[n] l[i] = false := by rw [hy]; exact decide_eq_false (by omega)
        refine ins38 h hl (by omega) hlt hn s2.drew ?_
        intro v9 w9 s9
        simp (disch := first | omega | exact okFill_t rfl | exact okSize_t rfl | exact fun h => h | (simp only [World.size_alloc, World.size_drew, World.size_setCell, size_fill, bytesW]; omega)) only [go_sem, c58, c58S0, c58S1, c58L0, c58S2, c58S3, c58S4, c58S5, c58S6, c58L1, c58S7]
        refine ⟨⟨by omega, by omega⟩, (i + 1, _), rfl, ⟨by simp only; omega, _, ⟨?_, sorts_ins hs hle fun _ => hno⟩, s9⟩, by simp only; omega⟩
        exact perm_ins hp hlt
    · have hnr' : ¬ (n : Int) < r.length := by omega
      simp (disch := first | omega | exact okFill_t rfl | exact okSize_t rfl | exact fun h => h | (simp only [World.size_alloc, World.size_drew, World.size_setCell, size_fill, bytesW]; omega)) only [go_sem, c58, c58S0, c58S1, c58L0, c58S2, c58S3, c58S5, c58S6, c58L1, c58S7]
      refine c58draw0 ?_
      simp (disch := first | omega | exact okFill_t rfl | exact okSize_t rfl | exact fun h => h | (simp only [World.size_alloc, World.size_drew, World.size_setCell, size_fill, bytesW]; omega)) only [go_sem, c58, c58S0, c58S1, c58L0, c58S2, c58S3, c58S5, c58S6, c58L1, c58S7, c58D0, hnr']
      refine ins38 h hl (by omega) hlt hn s2.drew ?_
      intro v9 w9 s9
      simp (disch := first | omega | exact okFill_t rfl | exact okSize_t rfl | exact fun h => h | (simp only [World.size_alloc, World.size_drew, World.size_setCell, size_fill, bytesW]; omega)) only [go_sem, c58, c58S0, c58S1, c58L0, c58S2, c58S3, c58S4, c58S5, c58S6, c58L1, c58S7]
      refine ⟨⟨by omega, by omega⟩, (i + 1, _), rfl, ⟨by simp only; omega, _, ⟨?_, sorts_ins hs hle fun h => absurd h (by omega)⟩, s9⟩, by simp only; omega⟩
      exact perm_ins hp hlt
  · have hlt' : ¬ (i : Int) < l.length := by omega
    simp (disch := first | omega | exact okFill_t rfl | exact okSize_t rfl | exact fun h => h | (simp only [World.size_alloc, World.size_drew, World.size_setCell, size_fill, bytesW]; omega)) only [go_sem, c58, c58S0, c58S1, c58L0, c58S2, c58S3, c58S4, c58S5, c58S6, c58L1, c58S7, hlt']
    have hil : i = l.length := by omega
    subst hil
    rw [List.take_length] at hp
    exact ⟨⟨r, ⟨hp, hs⟩, s1.row 0 rfl⟩, s1.bel⟩
end Go.Proofs.YtmdhcpghofadcaaGreat

namespace Go.Proofs.YtmdhcpghofadcaaGreat
set_option linter.unusedSimpArgs false
set_option linter.unusedVariables false
set_option maxRecDepth 100000
open Go Go.Ann Go.RowKit
def segQ (s : Seg) (o : OpT) : Bool := s.ops.all fun x => before x o
def Piece (r : List OpT) (al : Option Addr) (cl : Nat) (s : Seg) (v : Value) : Prop := ∃ f t, f ≤ t ∧ t ≤ r.length ∧ v = .slice (offA al cl f 11) (t - f) (cl - f) ∧ s.ops = (r.take t).drop f
theorem Piece.rd {w : World} {r : List OpT} {al : Option Addr} {cl : Nat} {s : Seg} {v : Value} (h : Piece r al cl s v) (hr : RdS w 11 OpT.enc (.slice al r.length cl) r) : RdS w 11 OpT.enc v s.ops := by
  obtain ⟨f, t, h1, h2, rfl, h3⟩ := h
  have e1 := rd_drop (Rd.take (k := t) hr h2) h1
  rw [take_flat, drop_flat] at e1
  have e2 : s.ops.length = t - f := by rw [h3, List.length_drop, List.length_take]; omega
  unfold RdS
  rw [e2, h3]
  exact e1
theorem take_drop_succ {r : List OpT} {f i : Nat} (h : i < r.length) (hf : f ≤ i) : (r.take (i + 1)).drop f = (r.take i).drop f ++ [r[i]] := by
  rw [List.take_succ_eq_append_getElem h, List.drop_append_of_le_length (by rw [List.length_take]; omega)]
theorem all_less {r : List OpT} {f k i : Nat} {p : OpT → Bool} (hk : k ≤ i) (h : ((r.take k).drop f).all p = false) : ((r.take i).drop f).all p = false := by
  rw [List.all_eq_false] at h ⊢
  obtain ⟨x, hx, hp⟩ := h
  exact ⟨x, ((List.take_sublist_take_left hk).drop f).subset hx, hp⟩
theorem put17 {W0 w : World} {Q : Post} {f i bo cl : Nat} {al : Option Addr} {b : Bool} {obj kind : Int} {va vo : Value} {r : List OpT} {out : List Seg} {vs : List Value} {I : List Inv} (hr : r.length ≤ 100) (ho : out.length ≤ 100) (hf : f ≤ i) (hi : i ≤ r.length) (hcl : r.length ≤ cl)
    (s : St W0 w (fun _ => False) [.row vo 51 3 out.length (segCells out vs), .blk bo #[.int .i64 obj, .int .i64 kind, va] 51] I)
    (h1 : b = true ∨ i = r.length → ∀ v' w', St W0 w' (fun _ => False) [.row v' 51 3 (out.length + 1) (segCells out vs ++ segC ⟨obj, kind, []⟩ (.slice (offA al cl f 11) (i - f) (cl - f))), .blk bo #[.int .i64 obj, .int .i64 kind, va] 51] I → Q .normal [(1, .pointer (some ⟨bo, 0, none⟩)), (3, .slice al r.length cl), (4, v'), (5, .int .i64 i), (6, .int .i64 i)] w')
    (h2 : b = false → i ≠ r.length → Q .normal [(1, .pointer (some ⟨bo, 0, none⟩)), (3, .slice al r.length cl), (4, vo), (5, .int .i64 f), (6, .int .i64 i)] w) :
    W Tryz.prog (c49S3 ()) [(1, .pointer (some ⟨bo, 0, none⟩)), (3, .slice al r.length cl), (4, vo), (5, .int .i64 f), (6, .int .i64 i), (7, .bool b)] w Q := by
  have hb := s.rules 1 rfl
  have hlow := s.low 1 rfl
  have grow : ∀ (Q' : Post) (x : Value), (∀ v' w', St W0 w' (fun _ => False) [.row v' 51 3 (out.length + 1) (segCells out vs ++ segC ⟨obj, kind, []⟩ (.slice (offA al cl f 11) (i - f) (cl - f))), .blk bo #[.int .i64 obj, .int .i64 kind, va] 51] I → Q' .normal [(1, .pointer (some ⟨bo, 0, none⟩)), (3, .slice al r.length cl), (4, v'), (6, .int .i64 i)] w') → drawW Tryz.prog (drawOps 1 c49code) [1, 3, 4, 6] [(1, .pointer (some ⟨bo, 0, none⟩)), (3, .slice al r.length cl), (4, vo), (5, .int .i64 f), (6, .int .i64 i), (46, x)] w Q' := by
    intro Q' x hQ'
    have hne : vo.ownBlock ≠ some bo := s.ne 1 0 rfl rfl (by decide) rfl
    refine c49draw1 (Chg (fun k => vo.ownBlock = some k) _) (Chg.refl _ _) ?_
    simp (disch := first | omega | exact okFill_t rfl | exact okSize_t rfl | exact fun h => h | (simp only [World.size_alloc, World.size_drew, World.size_setCell, size_fill, bytesW]; omega)) only [go_sem, c49, c49S0, c49S1, c49L0, c49S2, c49S3, c49S4, c49S5, c49L1, c49S6, c49S7, c49D1, hb, hne]
    refine ⟨⟨by omega, by omega, by omega⟩, bdW_built (cells := (segC ⟨obj, kind, []⟩ (.slice (offA al cl f 11) (i - f) (cl - f))).toArray) (by kernel_rfl) ?_⟩
    simp (disch := first | omega | exact okFill_t rfl | exact okSize_t rfl | exact fun h => h | (simp only [World.size_alloc, World.size_drew, World.size_setCell, size_fill, bytesW]; omega)) only [go_sem, c49, c49S0, c49S1, c49L0, c49S2, c49S3, c49S4, c49S5, c49L1, c49S6, c49S7, c49D1, hb, hne]
    refine bsW_agg ty43mkI rfl (by decide) (by decide) ?_
    simp (disch := first | omega | exact okFill_t rfl | exact okSize_t rfl | exact fun h => h | (simp only [World.size_alloc, World.size_drew, World.size_setCell, size_fill, bytesW]; omega)) only [go_sem, c49, c49S0, c49S1, c49L0, c49S2, c49S3, c49S4, c49S5, c49L1, c49S6, c49S7, c49D1, hb, hne]
    obtain ⟨sc, hsc⟩ : ∃ sc, sc = segC ⟨obj, kind, []⟩ (.slice (offA al cl f 11) (i - f) (cl - f)) := ⟨_, rfl⟩
    rw [← hsc] at hQ' ⊢
    have h1 : ∀ u ∈ sc, u.oneCell' = true := by intro u hu; rw [hsc] at hu; simp only [segC, List.mem_cons, List.not_mem_nil, or_false] at hu; rcases hu with rfl | rfl | rfl <;> rfl
    have hl3 : sc.toArray.size = 1 * 3 := by rw [hsc]; rfl
    have hrd : Rd (w.alloc (.cells sc.toArray 51)).drew 3 (.slice (some ⟨w.heap.size, 0, none⟩) 1 1) 1 sc := rd_new (w := w.drew) (t := 51) (sz := 3) (n := 1) (cs := sc.toArray) hl3
    have s2 : St W0 (w.alloc (.cells sc.toArray 51)).drew _ _ _ := (s.alloc' (.cells sc.toArray 51)).drew
    refine ⟨chg_da, s2.append 0 rfl ty43mkI rfl (by decide) hrd h1 (by omega) (by omega) ?_⟩
    intro v3 w3 s3 c3
    simp only [List.set_cons_zero] at s3
    simp (disch := first | omega | exact okFill_t rfl | exact okSize_t rfl | exact fun h => h | (simp only [World.size_alloc, World.size_drew, World.size_setCell, size_fill, bytesW]; omega)) only [go_sem, c49, c49S0, c49S1, c49L0, c49S2, c49S3, c49S4, c49S5, c49L1, c49S6, c49S7, c49D1, hb, hne]
    exact ⟨chg_da.trans c3, hQ' _ _ s3⟩
  cases b with
  | true =>
    simp (disch := first | omega | exact okFill_t rfl | exact okSize_t rfl | exact fun h => h | (simp only [World.size_alloc, World.size_drew, World.size_setCell, size_fill, bytesW]; omega)) only [go_sem, c49, c49S0, c49S1, c49L0, c49S2, c49S3, c49S4, c49S5, c49L1, c49S6, c49S7]
    refine grow _ _ fun v' w' s' => ?_
    simp (disch := first | omega | exact okFill_t rfl | exact okSize_t rfl | exact fun h => h | (simp only [World.size_alloc, World.size_drew, World.size_setCell, size_fill, bytesW]; omega)) only [go_sem, c49, c49S0, c49S1, c49L0, c49S2, c49S3, c49S4, c49S5, c49L1, c49S6, c49S7]
    exact h1 (.inl rfl) v' w' s'
  | false =>
    simp (disch := first | omega | exact okFill_t rfl | exact okSize_t rfl | exact fun h => h | (simp only [World.size_alloc, World.size_drew, World.size_setCell, size_fill, bytesW]; omega)) only [go_sem, c49, c49S0, c49S1, c49L0, c49S2, c49S3, c49S4, c49S5, c49L1, c49S6, c49S7]
    refine ⟨fun e => ?_, fun e => h2 rfl (by omega)⟩
    refine grow _ _ fun v' w' s' => ?_
    simp (disch := first | omega | exact okFill_t rfl | exact okSize_t rfl | exact fun h => h | (simp only [World.size_alloc, World.size_drew, World.size_setCell, size_fill, bytesW]; omega)) only [go_sem, c49, c49S0, c49S1, c49L0, c49S2, c49S3, c49S4, c49S5, c49L1, c49S6, c49S7]
    exact h1 (.inr (by omega)) v' w' s'
theorem rsegments_ok (obj kind : Int) (v : Value) (l : List OpT) (w : World) (h : RdS w 11 OpT.enc v l) (hl : l.length ≤ 100) :
    Ret Tryz.prog 49 [.agg #[.int .i64 obj, .int .i64 kind, v]] w fun u w' => (∃ r, Sorts earI l r ∧ RdR w' 3 segR u (r.foldl (cutStep segQ fun _ => (obj, kind)) [])) ∧ Below w.heap.size w w' := by
  obtain ⟨a, c, rfl, _⟩ := h.form
  refine ent49 _ _ _ ?_
  simp (disch := first | omega | exact okFill_t rfl | exact okSize_t rfl | exact fun h => h | (simp only [World.size_alloc, World.size_drew, World.size_setCell, size_fill, bytesW]; omega)) only [go_sem, c49, c49S0, c49S1, c49L0, c49S2, c49S3, c49S4, c49S5, c49L1, c49S6, c49S7]
  have s1 := (St.start (W0 := w)).box #[.int .i64 obj, .int .i64 kind, .slice a l.length c] 51
  have h1 := h.below s1.bel (by decide)
  generalize w.alloc (.cells #[.int .i64 obj, .int .i64 kind, .slice a l.length c] 51) = w1 at s1 h1 ⊢
  refine Ret.mono (sorted_ok _ _ _ h1 hl) ?_
  rintro vl w2 ⟨⟨r, hs, o2⟩, b2⟩
  have hrl : r.length = l.length := hs.1.length_eq
  have s2 := (s1.add b2 (.row vl 56 11 r.length (r.flatMap OpT.enc)) (own_mono o2 s1.size) fun k hk => (o2.lt k hk).1).seal (.rd 11 OpT.enc vl r) (RdS.of_own o2) fun k hk => slFoot_own hk
  obtain ⟨al, cl, rfl, hcl⟩ := own_slice o2
  simp (disch := first | omega | exact okFill_t rfl | exact okSize_t rfl | exact fun h => h | (simp only [World.size_alloc, World.size_drew, World.size_setCell, size_fill, bytesW]; omega)) only [go_sem, c49, c49S0, c49S1, c49L0, c49S2, c49S3, c49S4, c49S5, c49L1, c49S6, c49S7]
  refine W_loopU (fun x : Nat × Nat × Value => [(4, x.2.2), (5, .int .i64 x.2.1), (6, .int .i64 x.1)]) (fun x w' => 1 ≤ x.1 ∧ x.1 ≤ r.length + 1 ∧ x.2.1 ≤ x.1 ∧ ∃ out vs, vs.length = out.length ∧ out.length ≤ x.1 ∧ (∀ (j : Nat) (s : Seg) (v : Value), out[j]? = some s → vs[j]? = some v → Piece r al cl s v) ∧ (x.1 ≤ r.length → x.2.1 < x.1 ∧ (r.take x.1).foldl (cutStep segQ fun _ => (obj, kind)) [] = out ++ [(⟨obj, kind, (r.take x.1).drop x.2.1⟩ : Seg)]) ∧ (x.1 = r.length + 1 → r.foldl (cutStep segQ fun _ => (obj, kind)) [] = out) ∧
    St w w' (fun _ => False) [.row x.2.2 51 3 out.length (segCells out vs), .blk w.heap.size #[.int .i64 obj, .int .i64 kind, .slice a l.length c] 51] [.rd 11 OpT.enc (.slice al r.length cl) r]) (fun x => r.length + 1 - x.1) (1, 0, .slice none 0 0) rfl ⟨Nat.le_refl _, Nat.le_add_left 1 _, Nat.zero_le _, [], [], rfl, Nat.zero_le _, fun j s v h => (by have h' : (none : Option Seg) = some s := h; cases h'), fun hle => ⟨by decide, ?_⟩, fun he => ?_, s2.nilRow 51 3⟩ ?_
  · simp only at hle ⊢
    rw [List.drop_zero, List.take_succ_eq_append_getElem (by omega)]
    rfl
  · simp only at he
    rw [List.eq_nil_of_length_eq_zero (show r.length = 0 by omega)]; rfl
  rintro ⟨i, f, vo⟩ w3 ⟨hi1, hi2, hf, out, vs, hvs, hout, hpc, hfold, hend, s3⟩
  simp only at hi1 hi2 hf hout hfold hend s3
  by_cases hlt : i ≤ r.length
  · have hlt' : (i : Int) ≤ r.length := by omega
    simp (disch := first | omega | exact okFill_t rfl | exact okSize_t rfl | exact fun h => h | (simp only [World.size_alloc, World.size_drew, World.size_setCell, size_fill, bytesW]; omega)) only [go_sem, c49, c49S0, c49S1, c49L0, c49S2, c49S4, c49S5, c49L1, c49S6, c49S7, hlt']
    obtain ⟨hfi, hfe⟩ := hfold hlt
    have hpiece : Piece r al cl ⟨obj, kind, (r.take i).drop f⟩ (.slice (offA al cl f 11) (i - f) (cl - f)) := ⟨f, i, hf, hlt, rfl, rfl⟩
    have hsegq : ∀ b : Bool, b = (decide ((i : Int) < r.length) && ((r.take i).drop f).all fun y => before y (r.getD i default)) → ∀ h : i < r.length, segQ ⟨obj, kind, (r.take i).drop f⟩ r[i] = b := by
      intro b hb h
      rw [hb, decide_eq_true (by omega), Bool.true_and]
      simp [segQ, List.getD_eq_getElem?_getD, h]
    have hsucc : ∀ h : i < r.length, (r.take (i + 1)).foldl (cutStep segQ fun _ => (obj, kind)) [] = cutStep segQ (fun _ => (obj, kind)) (out ++ [(⟨obj, kind, (r.take i).drop f⟩ : Seg)]) r[i] := fun h => by
      rw [List.take_succ_eq_append_getElem h, List.foldl_append, hfe]; rfl
    have new1 : ∀ b : Bool, b = (decide ((i : Int) < r.length) && ((r.take i).drop f).all fun y => before y (r.getD i default)) → (b = true ∨ i = r.length) → (i + 1 ≤ r.length → i < i + 1 ∧ (r.take (i + 1)).foldl (cutStep segQ fun _ => (obj, kind)) [] = out ++ [(⟨obj, kind, (r.take i).drop f⟩ : Seg)] ++ [(⟨obj, kind, (r.take (i + 1)).drop i⟩ : Seg)]) ∧ (i + 1 = r.length + 1 → r.foldl (cutStep segQ fun _ => (obj, kind)) [] = out ++ [(⟨obj, kind, (r.take i).drop f⟩ : Seg)]) := by
      intro b hb hor
      refine ⟨fun h => ⟨by omega, ?_⟩, fun h => ?_⟩
      · have hbt : b = true := by rcases hor with h' | h'; exact h'; omega
        rw [hsucc (by omega), cutStep_new _ _ ((hsegq b hb (by omega)).trans hbt), take_drop_succ (by omega) (Nat.le_refl _), show (r.take i).drop i = [] from List.drop_eq_nil_of_le (by rw [List.length_take]; omega)]
        rfl
      · have : i = r.length := by omega
        rw [← hfe, this, List.take_length]
    have old1 : ∀ b : Bool, b = (decide ((i : Int) < r.length) && ((r.take i).drop f).all fun y => before y (r.getD i default)) → b = false → i ≠ r.length → (i + 1 ≤ r.length → f < i + 1 ∧ (r.take (i + 1)).foldl (cutStep segQ fun _ => (obj, kind)) [] = out ++ [(⟨obj, kind, (r.take (i + 1)).drop f⟩ : Seg)]) ∧ (i + 1 = r.length + 1 → r.foldl (cutStep segQ fun _ => (obj, kind)) [] = out) := by
      intro b hb hbf hne
      refine ⟨fun h => ⟨by omega, ?_⟩, fun h => by omega⟩
      rw [hsucc (by omega), cutStep_old _ _ ((hsegq b hb (by omega)).trans hbf), take_drop_succ (by omega) hf]
    have hpc' : ∀ (j : Nat) (s : Seg) (v : Value), (out ++ [(⟨obj, kind, (r.take i).drop f⟩ : Seg)])[j]? = some s → (vs ++ [.slice (offA al cl f 11) (i - f) (cl - f)])[j]? = some v → Piece r al cl s v := by
      intro j s v hx hv
      rcases Nat.lt_or_ge j out.length with hj | hj
      · rw [List.getElem?_append_left hj] at hx
        rw [List.getElem?_append_left (by omega)] at hv
        exact hpc j s v hx hv
      · rw [List.getElem?_append_right hj] at hx
        rw [List.getElem?_append_right (by omega), hvs] at hv
        have hz : j - out.length = 0 := by
          have := (List.getElem?_eq_some_iff.1 hx).1
          simp only [List.length_singleton] at this; omega
        rw [hz] at hx hv
        simp only [List.getElem?_cons_zero, Option.some.injEq] at hx hv
        subst hx; subst hv
        exact hpiece
    have hcells : segCells (out ++ [(⟨obj, kind, (r.take i).drop f⟩ : Seg)]) (vs ++ [.slice (offA al cl f 11) (i - f) (cl - f)]) = segCells out vs ++ segC ⟨obj, kind, []⟩ (.slice (offA al cl f 11) (i - f) (cl - f)) := segCells_snoc _ _ _ _ hvs
    refine W_loopU (fun x : Bool × Nat => [(7, .bool x.1), (8, .int .i64 x.2)]) (fun x w' => f ≤ x.2 ∧ x.2 ≤ i ∧ x.1 = (decide ((i : Int) < r.length) && ((r.take x.2).drop f).all fun y => before y (r.getD i default)) ∧ St w w' (fun _ => False) [.row vo 51 3 out.length (segCells out vs), .blk w.heap.size #[.int .i64 obj, .int .i64 kind, .slice a l.length c] 51] [.rd 11 OpT.enc (.slice al r.length cl) r]) (fun x => i - x.2) (decide ((i : Int) < r.length), f) rfl ⟨Nat.le_refl _, hf, by simp only; rw [List.drop_eq_nil_of_le (by rw [List.length_take]; omega)]; simp, s3⟩ ?_
    rintro ⟨b, k⟩ w4 ⟨hfk, hki, hb, s4⟩
    simp only at hfk hki hb
    have g4 : RdS w4 11 OpT.enc (.slice al r.length cl) r := s4.get 0 rfl
    have tail : b = false ∨ k = i → b = (decide ((i : Int) < r.length) && ((r.take i).drop f).all fun y => before y (r.getD i default)) := by
      rintro (rfl | rfl)
      · rcases hd : decide ((i : Int) < r.length) with _ | _
        · rfl
        · rw [hd, Bool.true_and] at hb
          rw [Bool.true_and, all_less hki hb.symm]
      · exact hb
    by_cases hk : k < i
    · have hk' : (k : Int) < i := by omega
      cases b with
      | true =>
        have hir : i < r.length := by
          rcases hd : decide ((i : Int) < r.length) with _ | _
          · rw [hd] at hb; cases hb
          · have := of_decide_eq_true hd; omega
        have hir' : (i : Int) < r.length := by omega
        obtain ⟨q, rfl⟩ := g4.ptr (by omega)
        have ck := g4.at OpT.len (show k < r.length by omega)
        have ci := g4.at OpT.len hir
        have hql := g4.blt OpT.len (by decide) (by omega)
        simp (disch := first | omega | exact okFill_t rfl | exact okSize_t rfl | exact fun h => h | (simp only [World.size_alloc, World.size_drew, World.size_setCell, size_fill, bytesW]; omega)) only [go_sem, c49, c49S0, c49S1, c49L0, c49S2, c49S4, c49S5, c49L1, c49S6, c49S7, hk']
        refine c49draw0 (Chg (fun _ => False) _) (Chg.refl _ _) ?_
        simp (disch := first | omega | exact okFill_t rfl | exact okSize_t rfl | exact fun h => h | (simp only [World.size_alloc, World.size_drew, World.size_setCell, size_fill, bytesW]; omega)) only [go_sem, c49, c49S0, c49S1, c49L0, c49S2, c49S4, c49S5, c49L1, c49S6, c49S7, c49D0, hk', ck, ci, hir']
        refine ⟨⟨by omega, by omega⟩, by omega, Ret.mono (rbefore_ok r[k] r[i] _) ?_⟩
        rintro _ w5 ⟨rfl, b5⟩
        simp (disch := first | omega | exact okFill_t rfl | exact okSize_t rfl | exact fun h => h | (simp only [World.size_alloc, World.size_drew, World.size_setCell, size_fill, bytesW]; omega)) only [go_sem, c49, c49S0, c49S1, c49L0, c49S2, c49S4, c49S5, c49L1, c49S6, c49S7, c49D0, hk', ck, ci, hir']
        refine ⟨⟨by omega, by omega⟩, (_, k + 1), rfl, ⟨by simp only; omega, by simp only; omega, ?_, (s4.drew).call b5⟩, by simp only; omega⟩
        simp only
        rw [take_drop_succ (by omega) hfk, List.all_append]
        have hpre : (((r.take k).drop f).all fun y => before y (r.getD i default)) = true := by
          have := hb.symm
          rw [Bool.and_eq_true] at this; exact this.2
        rw [hpre, List.getD_eq_getElem?_getD, List.getElem?_eq_getElem hir]
        simp only [Option.getD_some, List.all_cons, List.all_nil, Bool.true_and, Bool.and_true]
        unfold before
        cases r[k].Done <;> rfl
      | false =>
        simp (disch := first | omega | exact okFill_t rfl | exact okSize_t rfl | exact fun h => h | (simp only [World.size_alloc, World.size_drew, World.size_setCell, size_fill, bytesW]; omega)) only [go_sem, c49, c49S0, c49S1, c49L0, c49S2, c49S4, c49S5, c49L1, c49S6, c49S7, hk']
        have hcv := tail (.inl rfl)
        refine put17 (by omega) (by omega) hf hlt hcl s4 (fun hor v' w' s5 => ?_) (fun hbf hir => ?_)
        · simp (disch := first | omega | exact okFill_t rfl | exact okSize_t rfl | exact fun h => h | (simp only [World.size_alloc, World.size_drew, World.size_setCell, size_fill, bytesW]; omega)) only [go_sem, c49, c49S0, c49S1, c49L0, c49S2, c49S3, c49S4, c49S5, c49L1, c49S6, c49S7]
          obtain ⟨n1, n2⟩ := new1 _ hcv hor
          refine ⟨⟨by omega, by omega⟩, (i + 1, i, v'), rfl, ⟨Nat.le_add_left 1 i, Nat.succ_le_succ hlt, Nat.le_succ i, out ++ [(⟨obj, kind, (r.take i).drop f⟩ : Seg)], vs ++ [.slice (offA al cl f 11) (i - f) (cl - f)], by simp [hvs], by rw [List.length_append]; exact Nat.succ_le_succ hout, hpc', n1, n2, ?_⟩, by simp only; omega⟩
          rw [hcells, List.length_append]
          exact s5
        · simp (disch := first | omega | exact okFill_t rfl | exact okSize_t rfl | exact fun h => h | (simp only [World.size_alloc, World.size_drew, World.size_setCell, size_fill, bytesW]; omega)) only [go_sem, c49, c49S0, c49S1, c49L0, c49S2, c49S3, c49S4, c49S5, c49L1, c49S6, c49S7]
          obtain ⟨n1, n2⟩ := old1 _ hcv hbf hir
          exact ⟨⟨by omega, by omega⟩, (i + 1, f, vo), rfl, ⟨Nat.le_add_left 1 i, Nat.succ_le_succ hlt, Nat.le_succ_of_le hf, out, vs, hvs, Nat.le_succ_of_le hout, hpc, n1, n2, s4⟩, by simp only; omega⟩
    · have hk' : ¬ (k : Int) < i := by omega
      simp (disch := first | omega | exact okFill_t rfl | exact okSize_t rfl | exact fun h => h | (simp only [World.size_alloc, World.size_drew, World.size_setCell, size_fill, bytesW]; omega)) only [go_sem, c49, c49S0, c49S1, c49L0, c49S2, c49S4, c49S5, c49L1, c49S6, c49S7, hk']
      have hcv := tail (.inr (by omega))
      refine put17 (by omega) (by omega) hf hlt hcl s4 (fun hor v' w' s5 => ?_) (fun hbf hir => ?_)
      · simp (disch := first | omega | exact okFill_t rfl | exact okSize_t rfl | exact fun h => h | (simp only [World.size_alloc, World.size_drew, World.size_setCell, size_fill, bytesW]; omega)) only [go_sem, c49, c49S0, c49S1, c49L0, c49S2, c49S3, c49S4, c49S5, c49L1, c49S6, c49S7]
        obtain ⟨n1, n2⟩ := new1 _ hcv hor
        refine ⟨⟨by omega, by omega⟩, (i + 1, i, v'), rfl, ⟨Nat.le_add_left 1 i, Nat.succ_le_succ hlt, Nat.le_succ i, out ++ [(⟨obj, kind, (r.take i).drop f⟩ : Seg)], vs ++ [.slice (offA al cl f 11) (i - f) (cl - f)], by simp [hvs], by rw [List.length_append]; exact Nat.succ_le_succ hout, hpc', n1, n2, ?_⟩, by simp only; omega⟩
        rw [hcells, List.length_append]
        exact s5
      · simp (disch := first | omega | exact okFill_t rfl | exact okSize_t rfl | exact fun h => h | (simp only [World.size_alloc, World.size_drew, World.size_setCell, size_fill, bytesW]; omega)) only [go_sem, c49, c49S0, c49S1, c49L0, c49S2, c49S3, c49S4, c49S5, c49L1, c49S6, c49S7]
        obtain ⟨n1, n2⟩ := old1 _ hcv hbf hir
        exact ⟨⟨by omega, by omega⟩, (i + 1, f, vo), rfl, ⟨Nat.le_add_left 1 i, Nat.succ_le_succ hlt, Nat.le_succ_of_le hf, out, vs, hvs, Nat.le_succ_of_le hout, hpc, n1, n2, s4⟩, by simp only; omega⟩
  · have hlt' : ¬ (i : Int) ≤ r.length := by omega
    simp (disch := first | omega | exact okFill_t rfl | exact okSize_t rfl | exact fun h => h | (simp only [World.size_alloc, World.size_drew, World.size_setCell, size_fill, bytesW]; omega)) only [go_sem, c49, c49S0, c49S1, c49L0, c49S2, c49S3, c49S4, c49S5, c49L1, c49S6, c49S7, hlt']
    have hie : i = r.length + 1 := by omega
    refine ⟨⟨r, hs, ?_⟩, s3.bel⟩
    rw [hend hie]
    have hrr : RdS w3 11 OpT.enc (.slice al r.length cl) r := s3.get 0 rfl
    refine ⟨List.zipWith segC out vs, by simp [hvs], ?_, ?_⟩
    · intro j c x hc hx
      rw [List.getElem?_zipWith, hx] at hc
      cases hv : vs[j]? with
      | none => rw [hv] at hc; cases hc
      | some v =>
        rw [hv] at hc
        simp only [Option.some.injEq] at hc
        subst hc
        refine ⟨rfl, v, rfl, (hpc j x v hx hv).rd hrr, ?_⟩
        obtain ⟨f', t', _, _, _, e⟩ := hpc j x v hx hv
        rw [e, List.length_drop, List.length_take]; omega
    · rw [segCells_flat]
      exact Rd.of_own (s3.row 0 rfl)
end Go.Proofs.YtmdhcpghofadcaaGreat

namespace Go.Proofs.YtmdhcpghofadcaaGreat
set_option linter.unusedSimpArgs false
set_option linter.unusedVariables false
set_option maxRecDepth 100000
open Go Go.Ann Go.RowKit
def ofObj (x : Int) (l : List OpT) : List OpT := l.filter fun o => decide (o.Object = x)
structure ByObj (l : List OpT) (acc : List Seg) : Prop where
  up : acc.Pairwise fun a b => a.obj < b.obj
  sorts : ∀ s ∈ acc, Sorts earI (ofObj s.obj l) s.ops
  kind : ∀ s ∈ acc, ∃ o r, s.ops = o :: r ∧ s.kind = o.Kind
  all : ∀ o ∈ l, ∃ s ∈ acc, s.obj = o.Object
def Next (l : List OpT) (any : Bool) (last : Int) (k : Nat) (found : Bool) (next : Int) : Prop :=
  (found = false ∧ ∀ o ∈ l.take k, any = true ∧ o.Object ≤ last) ∨ (found = true ∧ (∃ o ∈ l.take k, o.Object = next) ∧ (any = true → last < next) ∧ ∀ o ∈ l.take k, (any = true → last < o.Object) → next ≤ o.Object)
def left (l : List OpT) (any : Bool) (last : Int) : List OpT := l.filter fun o => !any || decide (last < o.Object)
structure Part (l : List OpT) (acc : List Seg) (any : Bool) (last : Int) : Prop where
  up : acc.Pairwise fun a b => a.obj < b.obj
  sorts : ∀ s ∈ acc, Sorts earI (ofObj s.obj l) s.ops
  kind : ∀ s ∈ acc, ∃ o r, s.ops = o :: r ∧ s.kind = o.Kind
  low : ∀ s ∈ acc, any = true ∧ s.obj ≤ last
  all : ∀ o ∈ l, o ∈ left l any last ∨ ∃ s ∈ acc, s.obj = o.Object
theorem Part.nil (l : List OpT) (x : Int) : Part l [] false x := ⟨List.Pairwise.nil, (fun s h => by cases h), (fun s h => by cases h), (fun s h => by cases h), fun o h => .inl (by unfold left; simpa using h)⟩
theorem mem_take_succ {l : List OpT} {k : Nat} (hk : k < l.length) {o : OpT} : o ∈ l.take (k + 1) ↔ o ∈ l.take k ∨ o = l[k] := by
  rw [List.take_succ_eq_append_getElem hk, List.mem_append, List.mem_singleton]
theorem Next.take {l : List OpT} {any found : Bool} {last next : Int} {k : Nat} (h : Next l any last k found next) (hk : k < l.length) (h1 : any = true → last < l[k].Object) (h2 : found = true → l[k].Object < next) : Next l any last (k + 1) true l[k].Object := by
  refine .inr ⟨rfl, ⟨_, (mem_take_succ hk).2 (.inr rfl), rfl⟩, h1, fun o ho hlo => ?_⟩
  rcases (mem_take_succ hk).1 ho with ho | rfl
  · rcases h with ⟨_, h⟩ | ⟨hf, _, _, h⟩
    · have := h o ho; have := hlo this.1; omega
    · have := h o ho hlo; have := h2 hf; omega
  · exact Int.le_refl _
theorem Next.skip {l : List OpT} {any found : Bool} {last next : Int} {k : Nat} (h : Next l any last k found next) (hk : k < l.length) (h1 : (any = true ∧ l[k].Object ≤ last) ∨ (found = true ∧ next ≤ l[k].Object)) : Next l any last (k + 1) found next := by
  rcases h with ⟨hf, h⟩ | ⟨hf, ⟨x, hx, hxe⟩, h2, h⟩
  · subst hf
    refine .inl ⟨rfl, fun o ho => ?_⟩
    rcases (mem_take_succ hk).1 ho with ho | rfl
    · exact h o ho
    · rcases h1 with h1 | h1
      · exact h1
      · cases h1.1
  · refine .inr ⟨hf, ⟨x, (mem_take_succ hk).2 (.inl hx), hxe⟩, h2, fun o ho hlo => ?_⟩
    rcases (mem_take_succ hk).1 ho with ho | rfl
    · exact h o ho hlo
    · rcases h1 with h1 | h1
      · have := hlo h1.1; omega
      · exact h1.2
theorem segs_rd {W0 w : World} {F : Nat → Prop} {L : List Res} {I : List Inv} {vo : Value} {acc : List Seg} {vs : List Value} (hvs : vs.length = acc.length) (h : St W0 w F (.row vo 51 3 acc.length (segCells acc vs) :: L) I)
    (hr : ∀ (j : Nat) (s : Seg) (v : Value), acc[j]? = some s → vs[j]? = some v → RdS w 11 OpT.enc v s.ops) (hl : ∀ s ∈ acc, (s.ops.length : Int) ≤ 9223372036854775806) : RdR w 3 segR vo acc := by
  refine ⟨List.zipWith segC acc vs, by simp [hvs], ?_, ?_⟩
  · intro j c x hc hx
    rw [List.getElem?_zipWith, hx] at hc
    cases hv : vs[j]? with
    | none => rw [hv] at hc; cases hc
    | some v =>
      rw [hv] at hc
      simp only [Option.some.injEq] at hc
      subst hc
      exact ⟨rfl, v, rfl, hr j x v hx hv, hl x (List.mem_of_getElem? hx)⟩
  · rw [segCells_flat]
    exact Rd.of_own (h.row 0 rfl)
theorem ofObj_len (x : Int) (l : List OpT) : (ofObj x l).length ≤ l.length := List.length_filter_le _ _
theorem ofObj_snoc (x : Int) {l : List OpT} {k : Nat} (hk : k < l.length) : ofObj x (l.take (k + 1)) = ofObj x (l.take k) ++ if l[k].Object = x then [l[k]] else [] := by
  rw [List.take_succ_eq_append_getElem hk]
  unfold ofObj
  rw [List.filter_append]
  by_cases h : l[k].Object = x
  · rw [if_pos h]; simp [h]
  · rw [if_neg h]; simp [h]
theorem Part.step {l : List OpT} {acc : List Seg} {any : Bool} {last next : Int} {x o : OpT} {r' : List OpT} (h : Part l acc any last) (hx : x ∈ l) (hxe : x.Object = next) (hlo : any = true → last < next) (hmin : ∀ o ∈ l, (any = true → last < o.Object) → next ≤ o.Object) (hs : Sorts earI (ofObj next l) (o :: r')) :
    Part l (acc ++ [⟨next, o.Kind, o :: r'⟩]) true next ∧ (left l true next).length < (left l any last).length := by
  refine ⟨⟨?_, fun s hm => ?_, fun s hm => ?_, fun s hm => ?_, fun y hy => ?_⟩, ?_⟩
  · rw [List.pairwise_append]
    refine ⟨h.up, List.pairwise_singleton _ _, fun a ha b hb => ?_⟩
    simp only [List.mem_singleton] at hb; subst hb
    obtain ⟨a1, a2⟩ := h.low a ha
    have := hlo a1
    simp only; omega
  · rcases List.mem_append.1 hm with hm | hm
    · exact h.sorts s hm
    · simp only [List.mem_singleton] at hm; subst hm; exact hs
  · rcases List.mem_append.1 hm with hm | hm
    · exact h.kind s hm
    · simp only [List.mem_singleton] at hm; subst hm; exact ⟨o, r', rfl, rfl⟩
  · refine ⟨rfl, ?_⟩
    rcases List.mem_append.1 hm with hm | hm
    · obtain ⟨a1, a2⟩ := h.low s hm
      have := hlo a1; omega
    · simp only [List.mem_singleton] at hm; subst hm; exact Int.le_refl _
  · rcases h.all y hy with hl | ⟨s, hm, he⟩
    · by_cases hn : y.Object = next
      · exact .inr ⟨_, List.mem_append_right _ (List.mem_singleton_self _), hn.symm⟩
      · unfold left at hl ⊢
        rw [List.mem_filter] at hl ⊢
        have := hmin y hy fun ha => by have := hl.2; rw [ha] at this; simpa using this
        exact .inl ⟨hy, by simp; omega⟩
    · exact .inr ⟨s, List.mem_append_left _ hm, he⟩
  · have hsub : (left l true next) = (left l any last).filter fun o => decide (next < o.Object) := by
      unfold left
      rw [List.filter_filter]
      apply List.filter_congr
      intro y hy
      cases any with
      | false => simp
      | true => have := hlo rfl; simp; omega
    rw [hsub]
    refine List.length_filter_lt_length_iff_exists.2 ⟨x, ?_, ?_⟩
    · unfold left
      rw [List.mem_filter]
      refine ⟨hx, ?_⟩
      cases any with
      | false => rfl
      | true => have := hlo rfl; simp; omega
    · simp; omega
theorem robjects_ok (v : Value) (l : List OpT) (w : World) (h : RdS w 11 OpT.enc v l) (hl : l.length ≤ 100) :
    Ret Tryz.prog 25 [v] w fun u w' => (∃ acc, ByObj l acc ∧ RdR w' 3 segR u acc) ∧ Below w.heap.size w w' := by
  obtain ⟨a, c, rfl, _⟩ := h.form
  refine ent25 _ _ _ ?_
  simp (disch := first | omega | exact okFill_t rfl | exact okSize_t rfl | exact fun h => h | (simp only [World.size_alloc, World.size_drew, World.size_setCell, size_fill, bytesW]; omega)) only [go_sem, c25, c25S0, c25S1, c25L0, c25S2, c25S3, c25L1, c25S4, c25S5, c25S6, c25S7, c25S8, c25L2]
  refine W_loopU (fun x : Value × Int × Bool => [(3, x.1), (4, .int .i64 x.2.1), (5, .bool x.2.2)]) (fun x w' => ∃ acc vs, vs.length = acc.length ∧ acc.length + (left l x.2.2 x.2.1).length ≤ l.length ∧ St w w' (fun _ => False) [.row x.1 51 3 acc.length (segCells acc vs)] (segInvs acc vs) ∧ Part l acc x.2.2 x.2.1) (fun x => (left l x.2.2 x.2.1).length) (.slice none 0 0, 0, false) rfl ⟨[], [], rfl, by rw [List.length_nil, Nat.zero_add]; exact List.length_filter_le _ _, (St.start (W0 := w)).nilRow 51 3, Part.nil l 0⟩ ?_
  rintro ⟨vo, last, any⟩ w1 ⟨acc, vs, hvs, hlen, s1, hp⟩
  simp only at hlen s1 hp
  simp (disch := first | omega | exact okFill_t rfl | exact okSize_t rfl | exact fun h => h | (simp only [World.size_alloc, World.size_drew, World.size_setCell, size_fill, bytesW]; omega)) only [go_sem, c25, c25S0, c25S1, c25L0, c25S2, c25S3, c25L1, c25S4, c25S5, c25S6, c25S7, c25L2]
  refine W_loopU (fun x : Int × Bool × Nat => [(6, .int .i64 x.1), (7, .bool x.2.1), (8, .int .i64 x.2.2)]) (fun x w' => w' = w1 ∧ x.2.2 ≤ l.length ∧ Next l any last x.2.2 x.2.1 x.1) (fun x => l.length - x.2.2) (0, false, 0) rfl ⟨rfl, Nat.zero_le _, .inl ⟨rfl, fun o h => by simp at h⟩⟩ ?_
  rintro ⟨next, found, k⟩ _ ⟨rfl, hk, hn⟩
  simp only at hk hn
  by_cases hkl : k < l.length
  · have hkl' : (k : Int) < l.length := by omega
    obtain ⟨q, rfl⟩ := h.ptr (by omega)
    have ek := h.eltB s1.bel OpT.len (by decide) hkl
    have ak := l[k].at
    simp (disch := first | omega | exact okFill_t rfl | exact okSize_t rfl | exact fun h => h | (simp only [World.size_alloc, World.size_drew, World.size_setCell, size_fill, bytesW]; omega)) only [go_sem, c25, c25S0, c25S1, c25L0, c25S2, c25S3, c25L1, c25S4, c25S5, c25S6, c25S7, c25L2, hkl', ek, ak]
    have tk : (any = true → last < l[k].Object) → (found = true → l[k].Object < next) → k + 1 ≤ l.length ∧ Next l any last (k + 1) true l[k].Object := fun a b => ⟨hkl, hn.take hkl a b⟩
    have sk : ((any = true ∧ l[k].Object ≤ last) ∨ (found = true ∧ next ≤ l[k].Object)) → k + 1 ≤ l.length ∧ Next l any last (k + 1) found next := fun a => ⟨hkl, hn.skip hkl a⟩
    refine ⟨fun ha => ⟨by omega, fun h1 => ⟨fun hf => ⟨by omega, fun h2 => ⟨by omega, ⟨by omega, by omega⟩, (_, _, k + 1), rfl, tk (fun _ => h1) (fun _ => h2), by simp only; omega⟩, fun h2 => ⟨⟨by omega, by omega⟩, (_, _, k + 1), rfl, sk (.inr ⟨hf, h2⟩), by simp only; omega⟩⟩, fun hf => ⟨by omega, ⟨by omega, by omega⟩, (_, _, k + 1), rfl, tk (fun _ => h1) (fun h => by rw [hf] at h; cases h), by simp only; omega⟩⟩, fun h1 => ⟨⟨by omega, by omega⟩, (_, _, k + 1), rfl, sk (.inl ⟨ha, h1⟩), by simp only; omega⟩⟩, fun ha => ⟨fun hf => ⟨by omega, fun h2 => ⟨by omega, ⟨by omega, by omega⟩, (_, _, k + 1), rfl, tk (fun h => by rw [ha] at h; cases h) (fun _ => h2), by simp only; omega⟩, fun h2 => ⟨⟨by omega, by omega⟩, (_, _, k + 1), rfl, sk (.inr ⟨hf, h2⟩), by simp only; omega⟩⟩, fun hf => ⟨by omega, ⟨by omega, by omega⟩, (_, _, k + 1), rfl, tk (fun h => by rw [ha] at h; cases h) (fun h => by rw [hf] at h; cases h), by simp only; omega⟩⟩⟩
  · have hkl' : ¬ (k : Int) < l.length := by omega
    simp (disch := first | omega | exact okFill_t rfl | exact okSize_t rfl | exact fun h => h | (simp only [World.size_alloc, World.size_drew, World.size_setCell, size_fill, bytesW]; omega)) only [go_sem, c25, c25S0, c25S1, c25L0, c25S2, c25S3, c25L1, c25S4, c25S5, c25S6, c25S8, c25L2, hkl']
    have hkk : k = l.length := by omega
    subst hkk
    unfold Next at hn
    rw [List.take_length] at hn
    refine ⟨fun hf => ⟨⟨acc, ⟨hp.up, hp.sorts, hp.kind, fun o ho => ?_⟩, segs_rd hvs s1 (fun j s v hs hv => ?_) fun s hs => ?_⟩, s1.bel⟩, fun hf => ?_⟩
    · rcases hn with ⟨_, hn⟩ | ⟨hn, _⟩
      · rcases hp.all o ho with h' | h'
        · unfold left at h'
          rw [List.mem_filter] at h'
          obtain ⟨a1, a2⟩ := hn o ho
          rw [a1] at h'
          have := h'.2
          simp at this
          omega
        · exact h'
      · rw [hf] at hn; cases hn
    · exact (s1.inv _ (segInvs_mem acc vs j s v hs hv)).1
    · have e1 := (hp.sorts s hs).1.length_eq
      have e2 := ofObj_len s.obj l
      omega
    · rcases hn with ⟨hn, _⟩ | ⟨_, ⟨x, hx, hxe⟩, hlo, hmin⟩
      · rw [hf] at hn; cases hn
      simp (disch := first | omega | exact okFill_t rfl | exact okSize_t rfl | exact fun h => h | (simp only [World.size_alloc, World.size_drew, World.size_setCell, size_fill, bytesW]; omega)) only [go_sem, c25, c25S0, c25S1, c25L0, c25S2, c25S3, c25L1, c25S4, c25S5, c25S7, c25S8, c25L2]
      refine W_loopU (fun y : Value × Nat => [(9, y.1), (10, .int .i64 y.2)]) (fun y w' => y.2 ≤ l.length ∧ St w w' (fun _ => False) [.row y.1 56 11 (ofObj next (l.take y.2)).length ((ofObj next (l.take y.2)).flatMap OpT.enc), .row vo 51 3 acc.length (segCells acc vs)] (segInvs acc vs)) (fun y => l.length - y.2) (.slice none 0 0, 0) rfl ⟨Nat.zero_le _, s1.nilRow 56 11⟩ ?_
      rintro ⟨v2, k⟩ w2 ⟨hk2, s2⟩
      simp only at hk2 s2
      by_cases hkl2 : k < l.length
      · have hkl2' : (k : Int) < l.length := by omega
        obtain ⟨q, rfl⟩ := h.ptr (by omega)
        have ek := h.eltB s2.bel OpT.len (by decide) hkl2
        have ck := cellsO_below s2.bel (h.at OpT.len hkl2)
        have ak := l[k].at
        have hf1 := ofObj_len next (l.take k)
        rw [List.length_take] at hf1
        have hsn := ofObj_snoc next hkl2
        simp (disch := first | omega | exact okFill_t rfl | exact okSize_t rfl | exact fun h => h | (simp only [World.size_alloc, World.size_drew, World.size_setCell, size_fill, bytesW]; omega)) only [go_sem, c25, c25S0, c25S1, c25L0, c25S2, c25S3, c25L1, c25S4, c25S5, c25S7, c25S8, c25L2, hkl2', ek, ak, ck]
        refine ⟨by omega, fun he => ⟨by omega, bsW_agg ty22mkI rfl (by decide) (by decide) ?_⟩, fun he => ⟨⟨by omega, by omega⟩, (v2, k + 1), rfl, ⟨hkl2, ?_⟩, by simp only; omega⟩⟩
        · have hrd : Rd (w2.alloc (.cells l[k].enc.toArray 56)) 11 (.slice (some ⟨w2.heap.size, 0, none⟩) 1 1) 1 l[k].enc := rd_new (t := 56) (sz := 11) (n := 1) (cs := l[k].enc.toArray) rfl
          have s3 := s2.alloc' (.cells l[k].enc.toArray 56)
          generalize w2.alloc (.cells l[k].enc.toArray 56) = w3 at s3 hrd ⊢
          simp (disch := first | omega | exact okFill_t rfl | exact okSize_t rfl | exact fun h => h | (simp only [World.size_alloc, World.size_drew, World.size_setCell, size_fill, bytesW]; omega)) only [go_sem, c25, c25S0, c25S1, c25L0, c25S2, c25S3, c25L1, c25S4, c25S5, c25S7, c25S8, c25L2]
          refine s3.append 0 rfl ty22mkI rfl (by decide) hrd l[k].one (by omega) (by omega) ?_
          intro v4 w4 s4 _
          simp only [List.set_cons_zero] at s4
          simp (disch := first | omega | exact okFill_t rfl | exact okSize_t rfl | exact fun h => h | (simp only [World.size_alloc, World.size_drew, World.size_setCell, size_fill, bytesW]; omega)) only [go_sem, c25, c25S0, c25S1, c25L0, c25S2, c25S3, c25L1, c25S4, c25S5, c25S7, c25S8, c25L2]
          refine ⟨⟨by omega, by omega⟩, (v4, k + 1), rfl, ⟨hkl2, ?_⟩, by simp only; omega⟩
          simp only
          have e2 : (ofObj next (l.take k) ++ [l[k]]).length = (ofObj next (l.take k)).length + 1 := by simp
          have e3 : (ofObj next (l.take k) ++ [l[k]]).flatMap OpT.enc = (ofObj next (l.take k)).flatMap OpT.enc ++ l[k].enc := by rw [List.flatMap_append]; simp
          rw [hsn, if_pos he, e2, e3]
          exact s4
        · simp only
          rw [hsn, if_neg he, List.append_nil]
          exact s2
      · have hkl2' : ¬ (k : Int) < l.length := by omega
        simp (disch := first | omega | exact okFill_t rfl | exact okSize_t rfl | exact fun h => h | (simp only [World.size_alloc, World.size_drew, World.size_setCell, size_fill, bytesW]; omega)) only [go_sem, c25, c25S0, c25S1, c25L0, c25S2, c25S3, c25L1, c25S4, c25S5, c25S7, c25S8, c25L2, hkl2']
        have hkk : k = l.length := by omega
        subst hkk
        rw [List.take_length] at s2
        simp (disch := first | omega | exact okFill_t rfl | exact okSize_t rfl | exact fun h => h | (simp only [World.size_alloc, World.size_drew, World.size_setCell, size_fill, bytesW]; omega)) only [go_sem, c25, c25S0, c25S1, c25L0, c25S2, c25S3, c25L1, c25S4, c25S5, c25S6, c25S7, c25S8, c25L2]
        refine Ret.mono (sorted_ok _ _ _ (RdS.of_own (s2.row 0 rfl)) (by have := ofObj_len next l; omega)) ?_
        rintro v3 w3 ⟨⟨r, hs, o3⟩, b3⟩
        have s3 := (s2.sub (List.sublist_cons_self _ _)).add b3 (.row v3 56 11 r.length (r.flatMap OpT.enc)) (own_mono o3 s2.size) fun k hk => (o3.lt k hk).1
        have hrx : r ≠ [] := fun e => by
          have hm : x ∈ ofObj next l := by unfold ofObj; rw [List.mem_filter]; exact ⟨hx, by simpa using hxe⟩
          have := hs.1.length_eq
          rw [e] at this
          rw [List.eq_nil_of_length_eq_zero this.symm] at hm
          cases hm
        obtain ⟨o, r', rfl⟩ := List.exists_cons_of_ne_nil hrx
        have hro : RdS w3 11 OpT.enc v3 (o :: r') := RdS.of_own o3
        obtain ⟨p, cp, rfl, _⟩ := hro.form
        obtain ⟨p, rfl⟩ := hro.ptr (by simp)
        have er := hro.elt OpT.len (by decide) (show 0 < (o :: r').length by simp)
        have ar := o.at
        have e3 : w3.cell? ⟨p.block, p.off + 3, none⟩ = some (.int .i64 o.Kind) := by
          have := er.2 3 (by decide) (by decide)
          simpa [ar] using this
        simp (disch := first | omega | exact okFill_t rfl | exact okSize_t rfl | exact fun h => h | (simp only [World.size_alloc, World.size_drew, World.size_setCell, size_fill, bytesW]; omega)) only [go_sem, c25, c25S0, c25S1, c25L0, c25S2, c25S3, c25L1, c25S4, c25S5, c25S6, c25S7, c25S8, c25L2, er, ar, e3]
        refine ⟨by omega, bdW_built (cells := (segC ⟨next, o.Kind, []⟩ (.slice (some p) (r'.length + 1) cp)).toArray) (by kernel_rfl) ?_⟩
        simp (disch := first | omega | exact okFill_t rfl | exact okSize_t rfl | exact fun h => h | (simp only [World.size_alloc, World.size_drew, World.size_setCell, size_fill, bytesW]; omega)) only [go_sem, c25, c25S0, c25S1, c25L0, c25S2, c25S3, c25L1, c25S4, c25S5, c25S6, c25S7, c25S8, c25L2]
        refine bsW_agg ty43mkI rfl (by decide) (by decide) ?_
        have s4 := (s3.seal (.rd 11 OpT.enc (.slice (some p) (r'.length + 1) cp) (o :: r')) hro fun k hk => slFoot_own hk).alloc' (.cells (segC ⟨next, o.Kind, []⟩ (.slice (some p) (r'.length + 1) cp)).toArray 51)
        have hrd : Rd (w3.alloc (.cells (segC ⟨next, o.Kind, []⟩ (.slice (some p) (r'.length + 1) cp)).toArray 51)) 3 (.slice (some ⟨w3.heap.size, 0, none⟩) 1 1) 1 (segC ⟨next, o.Kind, []⟩ (.slice (some p) (r'.length + 1) cp)) := rd_new (t := 51) (sz := 3) (n := 1) (cs := (segC ⟨next, o.Kind, []⟩ (.slice (some p) (r'.length + 1) cp)).toArray) rfl
        generalize w3.alloc (.cells (segC ⟨next, o.Kind, []⟩ (.slice (some p) (r'.length + 1) cp)).toArray 51) = w4 at s4 hrd ⊢
        simp (disch := first | omega | exact okFill_t rfl | exact okSize_t rfl | exact fun h => h | (simp only [World.size_alloc, World.size_drew, World.size_setCell, size_fill, bytesW]; omega)) only [go_sem, c25, c25S0, c25S1, c25L0, c25S2, c25S3, c25L1, c25S4, c25S5, c25S6, c25S7, c25S8, c25L2]
        refine s4.append 0 rfl ty43mkI rfl (by decide) hrd (by intro u hu; simp only [segC, List.mem_cons, List.not_mem_nil, or_false] at hu; rcases hu with rfl | rfl | rfl <;> rfl) (by omega) (by omega) ?_
        intro v5 w5 s5 _
        simp only [List.set_cons_zero] at s5
        simp (disch := first | omega | exact okFill_t rfl | exact okSize_t rfl | exact fun h => h | (simp only [World.size_alloc, World.size_drew, World.size_setCell, size_fill, bytesW]; omega)) only [go_sem, c25, c25S0, c25S1, c25L0, c25S2, c25S3, c25L1, c25S4, c25S5, c25S6, c25S7, c25S8, c25L2]
        obtain ⟨p1, p2⟩ := hp.step hx hxe hlo hmin hs
        refine ⟨(v5, next, true), rfl, ⟨acc ++ [⟨next, o.Kind, o :: r'⟩], vs ++ [.slice (some p) (r'.length + 1) cp], by simp [hvs], by simp only; rw [List.length_append, List.length_singleton]; omega, ?_, p1⟩, p2⟩
        rw [List.length_append, List.length_singleton, segCells_snoc _ _ _ _ hvs]
        refine St.inv_sub s5 fun a ha => ?_
        rcases (segInvs_snoc acc vs _ _ hvs a).1 ha with rfl | ha
        · exact List.mem_cons_self
        · exact List.mem_cons_of_mem _ ha
end Go.Proofs.YtmdhcpghofadcaaGreat

namespace Go.Proofs.YtmdhcpghofadcaaGreat
set_option linter.unusedSimpArgs false
set_option linter.unusedVariables false
set_option maxRecDepth 100000
open Go Go.Ann Go.RowKit
theorem sorts_unique {l a b : List OpT} (hp : Pure l) (ha : Sorts earI l a) (hb : Sorts earI l b) : a = b := by
  refine List.Perm.eq_of_pairwise ?_ ha.2 hb.2 (ha.1.trans hb.1.symm)
  intro x y hx hy h1 h2
  refine hp x (ha.1.mem_iff.1 hx) y (hb.1.mem_iff.1 hy) ?_
  rw [ear_neg] at h1 h2
  omega
theorem byObj_unique {l : List OpT} (hp : Pure l) : ∀ {a b : List Seg}, ByObj l a → ByObj l b → a = b := by
  intro a b ha hb
  have mem : ∀ {a b : List Seg}, ByObj l a → ByObj l b → ∀ s ∈ a, s ∈ b := by
    intro a b ha hb s hs
    obtain ⟨o, r, e, hk⟩ := ha.kind s hs
    have ho : o ∈ ofObj s.obj l := (ha.sorts s hs).1.mem_iff.1 (by rw [e]; exact List.mem_cons_self)
    unfold ofObj at ho
    rw [List.mem_filter, decide_eq_true_eq] at ho
    obtain ⟨t, ht, hto⟩ := hb.all o ho.1
    have heq : t.obj = s.obj := hto.trans ho.2
    have hops : t.ops = s.ops := by
      have h1 := hb.sorts t ht
      rw [heq] at h1
      refine sorts_unique (l := ofObj s.obj l) (fun x hx y hy => hp x ?_ y ?_) h1 (ha.sorts s hs)
      · exact (List.mem_filter.1 hx).1
      · exact (List.mem_filter.1 hy).1
    obtain ⟨o2, r2, e2, hk2⟩ := hb.kind t ht
    have : t = s := by
      rw [hops, e] at e2
      cases t; cases s
      simp only at heq hops hk hk2 e2 ⊢
      simp only [List.cons.injEq] at e2
      subst heq; subst hops
      rw [hk, hk2, e2.1]
    rw [← this]; exact ht
  have nd : ∀ {a : List Seg}, ByObj l a → a.Nodup := fun h => h.up.imp fun h e => by rw [e] at h; omega
  have hperm : a.Perm b := (List.perm_ext_iff_of_nodup (nd ha) (nd hb)).2 fun s => ⟨mem ha hb s, mem hb ha s⟩
  exact List.Perm.eq_of_pairwise (le := fun x y : Seg => x.obj < y.obj) (fun x y _ _ h1 h2 => by omega) ha.up hb.up hperm
end Go.Proofs.YtmdhcpghofadcaaGreat

namespace Go.Proofs.YtmdhcpghofadcaaGreat
set_option linter.unusedSimpArgs false
set_option linter.unusedVariables false
set_option maxRecDepth 100000
open Go Go.Ann Go.RowKit
def objQ (s : Seg) (o : OpT) : Bool := !decide (s.obj = o.Object)
def objMk (o : OpT) : Int × Int := (o.Object, o.Kind)
structure Seen (r : List OpT) (acc : List Seg) : Prop where
  up : acc.Pairwise fun a b => a.obj < b.obj
  ops : ∀ s ∈ acc, s.ops = ofObj s.obj r
  kind : ∀ s ∈ acc, ∃ o r, s.ops = o :: r ∧ s.kind = o.Kind
  all : ∀ o ∈ r, ∃ s ∈ acc, s.obj = o.Object
  top : ∀ s ∈ acc, ∃ o ∈ r, s.obj = o.Object
theorem ofObj_append (x : Int) (a b : List OpT) : ofObj x (a ++ b) = ofObj x a ++ ofObj x b := List.filter_append ..
theorem ofObj_one (x : Int) (o : OpT) : ofObj x [o] = if o.Object = x then [o] else [] := by unfold ofObj; by_cases h : o.Object = x <;> simp [h]
theorem Seen.step {r : List OpT} {acc : List Seg} (h : Seen r acc) (o : OpT) (hle : ∀ x ∈ r, x.Object ≤ o.Object) : Seen (r ++ [o]) (cutStep objQ objMk acc o) := by
  have low : ∀ s ∈ acc, s.obj ≤ o.Object := fun s hs => by obtain ⟨x, hx, e⟩ := h.top s hs; rw [e]; exact hle x hx
  have fresh : (∀ s ∈ acc, s.obj < o.Object) → Seen (r ++ [o]) (acc ++ [⟨o.Object, o.Kind, [o]⟩]) := by
    intro hlt
    have hno : ofObj o.Object r = [] := by
      unfold ofObj
      rw [List.filter_eq_nil_iff]
      intro x hx
      obtain ⟨s, hs, e⟩ := h.all x hx
      have := hlt s hs
      simp; omega
    refine ⟨?_, fun s hs => ?_, fun s hs => ?_, fun x hx => ?_, fun s hs => ?_⟩
    · rw [List.pairwise_append]
      refine ⟨h.up, List.pairwise_singleton _ _, fun a ha b hb => ?_⟩
      simp only [List.mem_singleton] at hb; subst hb
      exact hlt a ha
    · rcases List.mem_append.1 hs with hs | hs
      · rw [ofObj_append, ← h.ops s hs, ofObj_one, if_neg (by have := hlt s hs; omega), List.append_nil]
      · simp only [List.mem_singleton] at hs; subst hs
        rw [ofObj_append, hno, ofObj_one, if_pos rfl]; rfl
    · rcases List.mem_append.1 hs with hs | hs
      · exact h.kind s hs
      · simp only [List.mem_singleton] at hs; subst hs; exact ⟨o, [], rfl, rfl⟩
    · rcases List.mem_append.1 hx with hx | hx
      · obtain ⟨s, hs, e⟩ := h.all x hx
        exact ⟨s, List.mem_append_left _ hs, e⟩
      · simp only [List.mem_singleton] at hx; subst hx
        exact ⟨_, List.mem_append_right _ (List.mem_singleton_self _), rfl⟩
    · rcases List.mem_append.1 hs with hs | hs
      · obtain ⟨x, hx, e⟩ := h.top s hs
        exact ⟨x, List.mem_append_left _ hx, e⟩
      · simp only [List.mem_singleton] at hs; subst hs
        exact ⟨o, List.mem_append_right _ (List.mem_singleton_self _), rfl⟩
  rcases List.eq_nil_or_concat acc with rfl | ⟨ini, s, he⟩
  · exact fresh fun s hs => by cases hs
  · rw [List.concat_eq_append] at he
    subst he
    have hup := List.pairwise_append.1 h.up
    have hslow := low s (by simp)
    by_cases hso : s.obj = o.Object
    · rw [cutStep_old _ _ (by unfold objQ; simp [hso])]
      have hini : ∀ t ∈ ini, t.obj < s.obj := fun t ht => hup.2.2 t ht s (by simp)
      refine ⟨?_, fun t ht => ?_, fun t ht => ?_, fun x hx => ?_, fun t ht => ?_⟩
      · rw [List.pairwise_append]
        refine ⟨hup.1, List.pairwise_singleton _ _, fun a ha b hb => ?_⟩
        simp only [List.mem_singleton] at hb; subst hb
        exact hini a ha
      · rcases List.mem_append.1 ht with ht | ht
        · rw [ofObj_append, ← h.ops t (List.mem_append_left _ ht), ofObj_one, if_neg (by have := hini t ht; omega), List.append_nil]
        · simp only [List.mem_singleton] at ht; subst ht
          simp only
          rw [ofObj_append, ← h.ops s (by simp), ofObj_one, if_pos hso.symm]
      · rcases List.mem_append.1 ht with ht | ht
        · exact h.kind t (List.mem_append_left _ ht)
        · simp only [List.mem_singleton] at ht; subst ht
          obtain ⟨x, y, e, hk⟩ := h.kind s (by simp)
          exact ⟨x, y ++ [o], by simp only; rw [e]; rfl, hk⟩
      · rcases List.mem_append.1 hx with hx | hx
        · obtain ⟨t, ht, e⟩ := h.all x hx
          rcases List.mem_append.1 ht with ht | ht
          · exact ⟨t, List.mem_append_left _ ht, e⟩
          · simp only [List.mem_singleton] at ht; subst ht
            exact ⟨_, List.mem_append_right _ (List.mem_singleton_self _), e⟩
        · simp only [List.mem_singleton] at hx; subst hx
          exact ⟨_, List.mem_append_right _ (List.mem_singleton_self _), hso⟩
      · rcases List.mem_append.1 ht with ht | ht
        · obtain ⟨x, hx, e⟩ := h.top t (List.mem_append_left _ ht)
          exact ⟨x, List.mem_append_left _ hx, e⟩
        · simp only [List.mem_singleton] at ht; subst ht
          exact ⟨o, List.mem_append_right _ (List.mem_singleton_self _), hso⟩
    · rw [cutStep_new _ _ (by unfold objQ; simp [hso])]
      refine fresh fun t ht => ?_
      rcases List.mem_append.1 ht with ht | ht
      · have := hup.2.2 t ht s (by simp); omega
      · simp only [List.mem_singleton] at ht; subst ht; omega
theorem seen_fold : ∀ (b a : List OpT) (acc : List Seg), Seen a acc → (a ++ b).Pairwise (fun x y => x.Object ≤ y.Object) → Seen (a ++ b) (b.foldl (cutStep objQ objMk) acc)
  | [], a, acc, h, _ => by rw [List.append_nil]; exact h
  | o :: b, a, acc, h, hp => by
    have := seen_fold b (a ++ [o]) _ (h.step o fun x hx => (List.pairwise_append.1 hp).2.2 x hx o List.mem_cons_self) (by rw [List.append_assoc]; exact hp)
    rw [List.append_assoc] at this
    exact this
theorem objects_by {l r : List OpT} (h : Sorts objI l r) : ByObj l (r.foldl (cutStep objQ objMk) []) := by
  have hp : r.Pairwise fun x y => x.Object ≤ y.Object := h.2.imp fun {a b} e => by rw [obj_neg] at e; omega
  have s := seen_fold r [] [] ⟨List.Pairwise.nil, (fun s h => by cases h), (fun s h => by cases h), (fun s h => by cases h), (fun s h => by cases h)⟩ hp
  rw [List.nil_append] at s
  refine ⟨s.up, fun t ht => ⟨?_, ?_⟩, s.kind, fun o ho => s.all o (h.1.mem_iff.2 ho)⟩
  · rw [s.ops t ht]; exact h.1.filter _
  · rw [s.ops t ht]
    have h2 : (ofObj t.obj r).Pairwise fun a b => ¬ objI b a < 0 := h.2.sublist List.filter_sublist
    refine List.Pairwise.imp_of_mem ?_ h2
    intro a b ha hb e
    have ea := (List.mem_filter.1 ha).2
    have eb := (List.mem_filter.1 hb).2
    rw [decide_eq_true_eq] at ea eb
    rw [obj_neg] at e
    rw [ear_neg]
    omega
end Go.Proofs.YtmdhcpghofadcaaGreat

namespace Go.Proofs.YtmdhcpghofadcaaGreat
set_option linter.unusedSimpArgs false
set_option linter.unusedVariables false
set_option maxRecDepth 100000
open Go Go.Ann Go.RowKit Go.WideShapes
def decL (n : Nat) : List UInt8 := if h : n < 10 then [UInt8.ofNat (48 + n)] else decL (n / 10) ++ [UInt8.ofNat (48 + n % 10)]
termination_by n
decreasing_by omega
def numL (n : Int) : List UInt8 := if n < 0 then 45 :: decL n.natAbs else decL n.natAbs
theorem decL_small {n : Nat} (h : n < 10) : decL n = [UInt8.ofNat (48 + n)] := by rw [decL]; simp [h]
theorem decL_big {n : Nat} (h : 10 ≤ n) : decL n = decL (n / 10) ++ [UInt8.ofNat (48 + n % 10)] := by rw [decL]; simp [show ¬ n < 10 by omega]
theorem decL_len (n : Nat) : ∀ k, n < 10 ^ k → 0 < k → (decL n).length ≤ k := by
  intro k
  induction k generalizing n with
  | zero => intro _ h; exact absurd h (by decide)
  | succ k ih =>
    intro hn _
    by_cases h : n < 10
    · rw [decL_small h]; simp
    · rw [decL_big (by omega), List.length_append, List.length_singleton]
      have hk : 0 < k := by
        rcases Nat.eq_zero_or_pos k with rfl | h'
        · exact absurd hn (by simpa using h)
        · exact h'
      have := ih (n / 10) (by rw [Nat.pow_succ] at hn; exact Nat.div_lt_of_lt_mul (by rw [Nat.mul_comm]; exact hn)) hk
      omega
end Go.Proofs.YtmdhcpghofadcaaGreat

namespace Go.Ann
open Go Go.RowKit
set_option linter.unusedVariables false
set_option linter.unusedSimpArgs false
def byteV (b : UInt8) : Value := .int .u8 b.toNat
theorem strCells_ofL (l : List UInt8) : Lib.strCells (ofL l) = l.map byteV := by
  unfold Lib.strCells ofL
  simp only [List.map_inj_left]
  intro a _; rfl
section
variable {P : Program} {W0 w w' : World} {F : Nat → Prop} {L : List Res} {I : List Inv} {K : Value → World → Prop}
theorem St.appendS {t u ty e n : Nat} {cs : Array Bool} {v : Value} {xs : List Value} (h : St W0 w F L I) (i : Nat) (hi : L[i]? = some (.row v e 1 n xs))
    (hm : mkI P t = some (e, 1, 1, .int .u8 0)) (hu : P.underlying u = some .string) (l : List UInt8) (hb : n + l.length ≤ 140737488355328)
    (hK : ∀ v' w', St W0 w' F (L.set i (.row v' e 1 (n + l.length) (xs ++ l.map byteV))) I → Chg (fun k => v.ownBlock = some k) w w' → (v' = .slice none 0 0 ↔ v = .slice none 0 0 ∧ l = []) → K v' w') :
    rawB P .append #[t, u] ty cs [v, .string (ofL l)] w K := by
  have hr := h.row i hi
  obtain ⟨inf, ht, hinf, hzz, hsi, hby⟩ := mkI_some hm
  have hsz : (ofL l).size = l.length := by simp [ofL, ByteArray.size]
  obtain ⟨v', w', h1, h2, h3, h4⟩ := Lib.run_append_own_string (P := P) (w := w) W0.heap.size t u ty e inf ht hu hinf hzz (by first | exact hsi | exact hsi.symm) (by first | exact hby | exact hby.symm) v n xs hr (ofL l) (by rw [hsz]; have : maxLen = 9223372036854775807 := (by decide); omega) (by rw [hsz]; exact hb) h.size
  have own : ∀ k, v'.ownBlock = some k → v.ownBlock = some k ∨ w.heap.size ≤ k := by
    have hml : maxLen = 9223372036854775807 := by decide
    rcases hr.2 with ⟨rfl, rfl⟩ | ⟨g, cap, cur, rfl, hbg, hg, hnc, hcm, hcs, htake⟩
    · rcases Nat.eq_zero_or_pos l.length with h0 | h0
      · have := h4.2 ⟨rfl, by rw [hsz]; exact h0⟩
        subst this
        intro k hk; cases hk
      · have hrun := run_append_nil_string (P := P) (w := w) t u ty e inf (.int .u8 0) ht hu hinf hzz (ofL l) (by omega) (by omega) (by rw [hsz]; first | rw [hby] | rw [← hby]; omega)
        rw [h1] at hrun
        simp only [Result.ok.injEq] at hrun
        rw [hrun.1]
        intro k hk
        simp only [Value.ownBlock, Option.some.injEq] at hk
        exact .inr (by omega)
    · by_cases hroom : n + (ofL l).size ≤ cap
      · have hcs' : cur.size = cap := by simpa using hcs
        have hrun := Lib.run_append_room_string (P := P) (w := w) t u ty e inf ht hu hinf (by first | exact hsi | exact hsi.symm) g n cap cur hg (ofL l) hroom (by omega)
        rw [h1] at hrun
        simp only [Result.ok.injEq] at hrun
        rw [hrun.1]
        intro k hk
        exact .inl hk
      · have holds : ∀ j u, xs[j]? = some u → w.cell? ((⟨g, 0, none⟩ : Addr).add j) = some u := hr.cells (g := g) rfl
        have hxl : xs.length = n := by simpa using hr.1
        have hrun := Lib.run_append_grow_string (P := P) (w := w) t u ty e inf (.int .u8 0) ht hu hinf hzz ⟨g, 0, none⟩ n cap xs (by first | rw [hsi] | rw [← hsi]; simpa using hxl) holds (ofL l) (by omega) (by omega) (by first | rw [hby] | rw [← hby]; exact growslice_fits (by omega) (by omega))
        rw [h1] at hrun
        simp only [Result.ok.injEq] at hrun
        rw [hrun.1]
        intro k hk
        simp only [Value.ownBlock, Option.some.injEq] at hk
        exact .inr (by omega)
  rw [hsz, strCells_ofL] at h2
  rw [hsz] at h4
  exact ⟨v', w', by simp only [builtin, Sem.run_bind, h1, Result.andThen_ok, Sem.run_pure], hK v' w' (h.grow i hi h3 h2 own) ((Chg.refl _ w).grown h3 fun k hk _ => hk) (h4.trans (by rw [List.length_eq_zero_iff]))⟩
theorem chg_freeze {S : Nat → Prop} {w0 : World} (h : Chg S w0 w) (g n : Nat) (hg : S g ∨ w0.heap.size ≤ g) : Chg S w0 (w.freeze ⟨g, 0, none⟩ n) := by
  have hf : ∀ k, k ≠ g → (w.freeze ⟨g, 0, none⟩ n).heap[k]? = w.heap[k]? := fun k hk => by
    unfold World.freeze
    split
    · rfl
    · simp only [Array.getElem?_modify]
      rw [if_neg (fun e => hk e.symm)]
  have hs : (w.freeze ⟨g, 0, none⟩ n).heap.size = w.heap.size := by
    unfold World.freeze
    split
    · rfl
    · simp only [Array.size_modify]
  refine ⟨?_, ?_, ?_, by rw [hs]; exact h.size, fun k hk hS => ?_⟩
  · have : (w.freeze ⟨g, 0, none⟩ n).os = w.os := by unfold World.freeze; split <;> rfl
    rw [this]; exact h.os
  · have : (w.freeze ⟨g, 0, none⟩ n).tape = w.tape := by unfold World.freeze; split <;> rfl
    rw [this]; exact h.tape
  · have : (w.freeze ⟨g, 0, none⟩ n).output = w.output := by unfold World.freeze; split <;> rfl
    rw [this]; exact h.output
  · rw [hf k (fun e => ?_)]
    · exact h.block k hk hS
    · subst e
      rcases hg with hg | hg
      · exact hS hg
      · omega
theorem rawB_sliceData {ats : Array TypeId} {ty e : TypeId} {cs : Array Bool} {a : Option Addr} {n c : Nat} (hp : P.underlying ty = some (.pointer e)) (h0 : a = none ∧ c = 0 ∨ 0 < c) (hK : K (.pointer a) w) : rawB P .unsafeSliceData ats ty cs [.slice a n c] w K := by
  refine ⟨_, w, ?_, hK⟩
  have : (Builtin.unsafeSliceData_ ats ty #[.slice a n c]).run P w = .ok (.pointer a) w := by
    rcases h0 with ⟨rfl, rfl⟩ | h0
    · rfl
    · cases a with
      | none => rfl
      | some a => exact Lib.run_unsafeSliceData_row _ _ _ _ _ _ (by omega)
  simp only [builtin, List.toArray, Sem.run_bind, this, Result.andThen_ok, Sem.run_pure]
theorem ofL_toArray (l : List UInt8) : (⟨l.toArray⟩ : ByteArray) = ofL l := by simp [ofL]
theorem St.unsafeS {pt it ty e n : Nat} {cs : Array Bool} {a : Option Addr} {c : Nat} {l : List UInt8} (h : St W0 w F L I) (i : Nat) (hi : L[i]? = some (.row (.slice a n c) e 1 n (l.map byteV)))
    (hp : P.underlying pt = some (.pointer e)) (hc : P.cellsOf e = 1) (hK : ∀ w', St W0 w' F (L.set i (.row (.slice none 0 0) e 1 0 [])) I → Chg (fun k => (Value.slice a n c).ownBlock = some k) w w' → K (.string (ofL l)) w') :
    rawB P .unsafeString #[pt, it] ty cs [.pointer a, .int .i64 n] w K := by
  have hr := h.row i hi
  have hln : l.length = n := by have := hr.1; simpa using this
  have nil : ∀ w', Res.ok w' W0.heap.size (.row (.slice none 0 0) e 1 0 []) := fun w' => ⟨by simp, .inl ⟨rfl, rfl⟩⟩
  rcases Nat.eq_zero_or_pos n with h0 | h0
  · subst h0
    obtain rfl : l = [] := List.eq_nil_of_length_eq_zero hln
    refine ⟨.string (ofL []), w, ?_, hK w (h.upd i hi (Chg.refl _ _) _ (nil w) fun k hk => by cases hk) (Chg.refl _ _)⟩
    have := Lib.run_unsafeString_none (P := P) w pt it ty a
    have e0 : (ofL [] : ByteArray) = .empty := rfl
    simp only [builtin, List.toArray, Sem.run_bind, Result.andThen_ok, Sem.run_pure]
    have e1 : ((0 : Nat) : Int) = 0 := rfl
    rw [e1]
    show Result.andThen ((Builtin.unsafeString_ #[pt, it] ty #[.pointer a, .int .i64 0]).run P w) _ = _
    rw [this, e0]; rfl
  · rcases hr.2 with ⟨_, hz⟩ | ⟨g, cap, cur, hv, hbg, hg, hnc, hcm, hcs, htake⟩
    · omega
    simp only [Value.slice.injEq, true_and] at hv
    obtain ⟨rfl, rfl⟩ := hv
    have hml : maxLen = 9223372036854775807 := by decide
    have hrun := Lib.run_unsafeString_row (P := P) w pt it ty e hp hc g cur.size (by simp [World.shape?, hg]) l (by intro hl; rw [hl] at hln; simp at hln; omega) (by omega) (by omega) (fun j x hx => hr.cells (g := g) rfl j _ (by rw [List.getElem?_map, hx]; rfl))
    rw [hln, ofL_toArray] at hrun
    have hch : Chg (fun k => (Value.slice (some ⟨g, 0, none⟩) n c).ownBlock = some k) w (w.freeze ⟨g, 0, none⟩ n) := chg_freeze (Chg.refl _ _) g n (.inl rfl)
    refine ⟨.string (ofL l), w.freeze ⟨g, 0, none⟩ n, ?_, hK _ (h.upd i hi hch _ (nil _) fun k hk => by cases hk) hch⟩
    simp only [builtin, List.toArray, Sem.run_bind, Result.andThen_ok, Sem.run_pure]
    show Result.andThen ((Builtin.unsafeString_ #[pt, it] ty #[.pointer (some ⟨g, 0, none⟩), .int .i64 n]).run P w) _ = _
    rw [hrun]; rfl
end
end Go.Ann

namespace Go.Ann
open Go Go.RowKit
set_option linter.unusedVariables false
set_option linter.unusedSimpArgs false
section
variable {P : Program} {N : Nat}
theorem RangeW_any {g : Operand} {ps : List Nat} {A B : Cmd} {ρ : Env} {w W0 : World} {Q : Post} {F : Nat → Prop} {L0 : List Res} {I : List Inv} {α β : Type} {gf : Nat} {lb : Array Value}
    (encs : α → List Value) (E : List α → α → Prop) (G : List α → Prop) (L : β → List α → List Res) (y0 : β)
    (hg : ev ρ g = some (.func (.func gf) #[] lb)) (hgo : goFunc P gf = true) (s : St W0 w F L0 I) (hL : L y0 [] = L0) (hlen : ∀ x, (encs x).length = ps.length)
    (hit : ∀ (fv : Value) (J : List Res → List α → World → Prop) (w1 : World), (∀ R pre w', J R pre w' → ∃ l D o y, St W0 w' F (.obj l o :: .obj D (.deferred (some [])) :: (L y pre ++ R)) I) → (∀ R R' pre w' w'', J R pre w' → (∀ X, St W0 w' F (X ++ R) I → St W0 w'' F (X ++ R') I) → J R' pre w'') →
      (∀ R pre x w', J R pre w' → E pre x → callW P fv (encs x) w' fun v w'' => v = .bool true ∧ J R (pre ++ [x]) w'') → J [] [] w1 → Ret P gf (fv :: lb.toList) w1 fun _ w' => ∃ xs, G xs ∧ J [] xs w')
    (hbody : ∀ R y pre x w' l D o o2, E pre x → St W0 w' F (.obj l o :: .obj D (.deferred (some [])) :: (L y pre ++ R)) I → W P A (zipE ps (encs x) (lowE ρ)) w' fun e ρ1 w1 => match e with
      | .normal => ∃ M, St W0 w1 F (.obj l o :: .obj D (.deferred (some [])) :: (M ++ R)) I ∧ ∀ w2, St W0 w2 F (.obj l o2 :: .obj D (.deferred (some [])) :: (M ++ R)) I → W P B ρ1 w2 fun e2 _ w3 => match e2 with
        | .normal => ∃ y', St W0 w3 F (.obj l o2 :: .obj D (.deferred (some [])) :: (L y' (pre ++ [x]) ++ R)) I
        | _ => False
      | _ => False)
    (hdone : ∀ xs y D w', G xs → St W0 w' F (.obj D (.deferred (some [])) :: L y xs) I → Q .normal ((D + 1000000, undef) :: ρ) w') : RangeW P g ps A B ρ w Q := by
  intro N a ca cb hca hcb hra hrb hps hs
  refine wpIn_rangeFunc fun fn _ => ?_
  obtain ⟨rec, hrec⟩ : ∃ rec : LoopState → Option Code → Loop, rec = fun st pe => { state := st, pending := pe, fn, tmps := a.tmps, params := ps.toArray, assign := ca, body := cb, defers := w.heap.size } := ⟨_, rfl⟩
  have hs1 : St W0 ((w.alloc (.deferred (some []))).alloc (.loop (rec .ready none))) F (.obj (w.heap.size + 1) (.loop (rec .ready none)) :: .obj w.heap.size (.deferred (some [])) :: L y0 []) I := by
    rw [hL]
    have := (s.lay (.deferred (some []))).lay (.loop (rec .ready none))
    rw [World.size_alloc] at this
    exact this
  generalize hw1 : (w.alloc (.deferred (some []))).alloc (.loop (rec .ready none)) = w1 at hs1
  refine ⟨w.heap.size + 1, [{ target := .collected w.heap.size, args := #[] }], w1, { target := .fn (.func gf) lb, args := #[.func (.yield (w.heap.size + 1)) #[] #[]] }, w1, gf,
    #[.func (.yield (w.heap.size + 1)) #[] #[]] ++ lb, w1, ?_, ?_, ?_, ?_, fun _ => by decide, ?_⟩
  · rw [← hw1, hrec]; exact run_enterLoop_outer _ _ _ _ _
  · simp only [resolve, hs.eval _ _ hg]
    simp [go_sem]
  · intro f' _; exact trivial
  · simp [invoke, go_sem, callFunc_run hgo]
  · generalize w.heap.size + 1 = l at hs1 ⊢
    generalize w.heap.size = D at hrec hs1 ⊢
    have key := hit (.func (.yield l) #[] #[]) (fun R pre w' => ∃ y, St W0 w' F (.obj l (.loop (rec .ready none)) :: .obj D (.deferred (some [])) :: (L y pre ++ R)) I) w1 (fun R pre w' ⟨y, h⟩ => ⟨_, _, _, y, h⟩) (fun R R' pre w' w'' ⟨y, h⟩ hX => ⟨y, hX (.obj l (.loop (rec .ready none)) :: .obj D (.deferred (some [])) :: L y pre) h⟩) ?_ ⟨y0, by rw [List.append_nil]; exact hs1⟩
    · have e : #[Value.func (.yield l) #[] #[]] ++ lb = (Value.func (.yield l) #[] #[] :: lb.toList).toArray := by simp
      rw [e]
      refine CallsIn.mono (callsIn_wide.2 key) fun e w2 ⟨v, he, xs, hG, y, h2⟩ => ?_
      subst he
      simp only [List.append_nil] at h2
      have hl := h2.obj 0 rfl
      refine ⟨none, w2.putObj l (.loop { rec .ready none with state := .exhausted }), ?_, ?_⟩
      · have := run_endLoop (P := P) hl (by rw [hrec]; simp)
        rw [hrec] at this ⊢
        exact this
      · have h3 := (h2.putObj 0 rfl (.loop { rec .ready none with state := .exhausted })).sub (L' := .obj D (.deferred (some [])) :: L y xs) (by simp)
        exact ⟨_, hs.mark D, hdone xs y D _ hG h3⟩
    · rintro R pre x w' ⟨y, h⟩ hx
      have hl := h.obj 0 rfl
      have hsz : (encs x).toArray.size = (rec .ready none).params.size := by rw [hrec]; simp [hlen]
      have hy := run_yield (P := P) hl hsz
      rw [hrec] at hy
      refine ⟨rfl, rfl, fn, _, ca, cb, hy, ?_⟩
      refine roundIn_of_wpIn trivial ?_
      have hsim : Sim N { tmps := ((ps.toArray.zip (encs x).toArray).foldl (fun t (p, v) => t.setIfInBounds p v) a.tmps), defers := [] } (zipE ps (encs x) (lowE ρ)) := by
        have := Sim.zipE (a := { tmps := a.tmps, defers := [] }) ps (encs x) (lowE ρ) a.tmps hps hs.lowE
        rw [← Array.foldl_toList, Array.toList_zip]
        exact this
      have hA := W_sound (r := some l) (n := 0) ca A hca (.inl hra) _ w' _ _ hsim (hbody R y pre x w' l D _ (.loop { rec .ready none with state := .busy }) hx h)
      refine wpIn_mono hA fun e a1 w1 hh => ?_
      obtain ⟨ρ1, hs1, hq⟩ := hh
      cases e with
      | normal =>
        obtain ⟨M, hM, hB⟩ := hq
        have hl1 := hM.obj 0 rfl
        refine ⟨_, run_beginRound hl1 (by rw [hrec]), ?_⟩
        have hB' := W_sound (r := some l) (n := 0) cb B hcb (.inl hrb) _ _ _ a1 hs1 (hB _ (hM.putObj 0 rfl _))
        refine wpIn_mono hB' fun e2 a2 w2 hh => ?_
        obtain ⟨ρ2, hs2, hq2⟩ := hh
        cases e2 with
        | normal =>
          obtain ⟨y', hq2⟩ := hq2
          have hl2 := St.obj hq2 0 rfl
          have he := run_endRound (P := P) none hl2
          refine ⟨.bool true, w2.putObj l (.loop (rec .ready none)), ?_, .bool true, rfl, rfl, ?_⟩
          · rw [hrec] at he ⊢; exact he
          · exact ⟨y', St.putObj hq2 0 rfl _⟩
        | _ => exact hq2.elim
      | _ => exact hq.elim
end
end Go.Ann

namespace Go.Proofs.YtmdhcpghofadcaaGreat
set_option linter.unusedSimpArgs false
set_option linter.unusedVariables false
set_option maxRecDepth 100000
open Go Go.Ann Go.RowKit Go.WideShapes
def digB (u : Nat) : UInt8 := UInt8.ofNat (48 + u % 10)
abbrev cellB (b : UInt8) : Value := byteV b
theorem cellB_one (b : UInt8) : ∀ u ∈ [cellB b], u.oneCell' = true := by intro u hu; rw [List.mem_singleton] at hu; subst hu; rfl
theorem dig_nat (u : Nat) : ((digB u).toNat : Int) = 48 + (u % 10 : Nat) := by
  unfold digB
  rw [UInt8.toNat_ofNat']
  omega
theorem dig_wrap (u : Nat) : IntKind.u8.wrap (IntKind.u64.wrap (48 + (u : Int).tmod 10)) = ((digB u).toNat : Int) := by
  rw [show (u : Int).tmod 10 = ((u % 10 : Nat) : Int) from (Int.ofNat_tmod u 10).symm, dig_nat, wrap_u64_id _ (by omega) (by omega), wrap_u8_id _ (by omega) (by omega)]
theorem decL_dig {n : Nat} (h : 10 ≤ n) : decL n = decL (n / 10) ++ [digB n] := decL_big h
theorem decL_one {n : Nat} (h : n < 10) : decL n = [digB n] := by rw [decL_small h]; unfold digB; rw [Nat.mod_eq_of_lt h]
theorem one_cell (w : World) (b : UInt8) (t : TypeId) : ∀ i c, ([b] : List UInt8)[i]? = some c → (w.alloc (.cells #[cellB b] t)).cell? ((⟨w.heap.size, 0, none⟩ : Addr).add i) = some (byteV c) := by
  intro i c hi
  match i, hi with
  | 0, hi =>
    simp only [List.getElem?_cons_zero, Option.some.injEq] at hi; subst hi
    simp only [Addr.add_lit]
    rw [World.cell?_alloc_at _ _ _ _ rfl]; simp
  | i + 1, hi => simp at hi
theorem decL_le {n : Nat} (h : n < 100000000000000000000) : (decL n).length ≤ 20 := decL_len n 20 (by simpa using h) (by decide)
theorem numL_le {n : Int} (h : I64 n) : (numL n).length ≤ 21 := by
  have := decL_le (n := n.natAbs) (by unfold I64 at h; omega)
  unfold numL
  split <;> simp <;> omega
theorem digits_ok (n : Int) (w : World) (hn : I64 n) : Ret Tryz.prog 38 [.int .i64 n] w fun u w' => u = .string (ofL (numL n)) ∧ Below w.heap.size w w' := by
  refine ent38 _ _ _ ?_
  have hN0 : n.natAbs < 9223372036854775809 := by unfold I64 at hn; omega
  have rest : ∀ N : Nat, N = n.natAbs → W Tryz.prog (c38S2 ()) [(0, .int .i64 n), (3, .int .u64 N), (4, .string (ofL []))] w (finQ Tryz.prog [.tmp 2] fun u w' => u = .string (ofL (numL n)) ∧ Below w.heap.size w w') := by
    intro N hN
    have hlN := decL_le (n := N) (by omega)
    simp (disch := first | omega | exact okFill_t rfl | exact okSize_t rfl | exact fun h => h | (simp only [World.size_alloc, World.size_drew, World.size_setCell, size_fill, bytesW]; omega)) only [go_sem, c38, c38S0, c38S2]
    refine W_loopU (fun q : Nat × List UInt8 => [(3, .int .u64 q.1), (4, .string (ofL q.2))]) (fun q w' => Below w.heap.size w w' ∧ decL N = decL q.1 ++ q.2 ∧ q.1 ≤ N) (fun q => q.1) (N, []) rfl ⟨Below.refl _ _, by simp, Nat.le_refl _⟩ ?_
    rintro ⟨u, s⟩ w1 ⟨b1, e1, hu⟩
    simp only at e1 hu
    have hs : s.length ≤ 20 := by have := congrArg List.length e1; rw [List.length_append] at this; omega
    simp (disch := first | omega | exact okFill_t rfl | exact okSize_t rfl | exact fun h => h | (simp only [World.size_alloc, World.size_drew, World.size_setCell, size_fill, bytesW]; omega)) only [go_sem, c38, c38L0, c38S0, c38S2, c38L0]
    rw [dig_wrap]
    refine bsW_ones ty61mkI rfl rfl (by decide) (by decide) (cellB_one (digB u)) ?_
    have e4 : (u : Int).tdiv 10 = ((u / 10 : Nat) : Int) := (Int.ofNat_tdiv u 10).symm
    simp (disch := first | omega | exact okFill_t rfl | exact okSize_t rfl | exact fun h => h | (simp only [World.size_alloc, World.size_drew, World.size_setCell, size_fill, bytesW]; omega)) only [go_sem, c38, c38L0, c38S0, c38S2]
    rw [e4, wrap_u64_id _ (by omega) (by omega)]
    refine ⟨[digB u], rfl, fun i c hi => one_cell w1 (digB u) 5 i c hi, by simp; omega, fun h0 => ?_, fun h0 => ?_⟩
    · have hsz := b1.size
      have hN1 : decL N = [digB u] ++ s := by rw [e1, decL_one (by omega)]
      have hl := congrArg List.length hN1
      rw [List.length_append, List.length_singleton] at hl
      have b2 : Below w.heap.size w (w1.alloc (.cells #[.int .u8 (digB u).toNat] 5)) := b1.alloc hsz _
      generalize w1.alloc (.cells #[.int .u8 (digB u).toNat] 5) = w2 at b2 ⊢
      rw [← hN1]
      simp (disch := first | omega | exact okFill_t rfl | exact okSize_t rfl | exact fun h => h | (simp only [World.size_alloc, World.size_drew, World.size_setCell, size_fill, bytesW]; omega)) only [go_sem, c38, c38L0, c38S0, c38S1, c38S2]
      unfold numL
      subst hN
      refine ⟨fun hneg => ⟨by omega, ?_⟩, fun hneg => ?_⟩
      · rw [if_pos hneg]; exact ⟨rfl, b2⟩
      · rw [if_neg (by omega)]; exact ⟨rfl, b2⟩
    · have hu10 : 10 ≤ u := by omega
      refine ⟨(u / 10, digB u :: s), rfl, ⟨b1.alloc b1.size _, by rw [e1, decL_dig hu10]; simp, by simp only; omega⟩, by simp only; omega⟩
  simp (disch := first | omega | exact okFill_t rfl | exact okSize_t rfl | exact fun h => h | (simp only [World.size_alloc, World.size_drew, World.size_setCell, size_fill, bytesW]; omega)) only [go_sem, c38, c38L0, c38S0, c38S1]
  refine ⟨fun h => ?_, fun h => ?_⟩
  · unfold unV pvW
    refine ⟨trivial, ?_⟩
    simp (disch := first | omega | exact okFill_t rfl | exact okSize_t rfl | exact fun h => h | (simp only [World.size_alloc, World.size_drew, World.size_setCell, size_fill, bytesW]; omega)) only [go_sem, c38, c38L0, c38S0, c38S1]
    have e : IntKind.u64.wrap (0 - IntKind.u64.wrap n) = (n.natAbs : Int) := by
      rw [wrap_u64_mod, wrap_u64_mod]
      omega
    rw [e]
    exact rest _ rfl
  · have e : IntKind.u64.wrap n = (n.natAbs : Int) := by
      rw [wrap_u64_mod]
      omega
    rw [e]
    exact rest _ rfl
end Go.Proofs.YtmdhcpghofadcaaGreat

namespace Go.Proofs.YtmdhcpghofadcaaGreat
set_option linter.unusedSimpArgs false
set_option linter.unusedVariables false
set_option maxRecDepth 100000
open Go Go.Ann Go.RowKit Go.WideShapes
theorem one_bytes {w w' : World} {d : UInt8} {t : TypeId} (h : Below (w.heap.size + 1) (w.alloc (.cells #[.int .u8 d.toNat] t)) w') : bytesAt w' (some ⟨w.heap.size, 0, none⟩) [d] := by
  intro i c hi
  match i, hi with
  | 0, hi =>
    simp only [List.getElem?_cons_zero, Option.some.injEq] at hi; subst hi
    have hb : Blk w' w.heap.size #[.int .u8 d.toNat] t := Blk.new.below h (by omega)
    have := hb.rules.1 0
    simp only [Addr.add_lit]
    rw [this]; rfl
  | i + 1, hi => simp at hi
theorem num_tmod {n : Int} : n.tmod 10 = (if n < 0 then -((n.natAbs % 10 : Nat) : Int) else ((n.natAbs % 10 : Nat) : Int)) := by
  rcases Int.natAbs_eq n with h | h <;> generalize n.natAbs = N at h <;> subst h
  · rw [if_neg (by omega)]; exact (Int.ofNat_tmod N 10).symm
  · rw [Int.neg_tmod]
    rw [show (N : Int).tmod 10 = ((N % 10 : Nat) : Int) from (Int.ofNat_tmod N 10).symm]
    split <;> omega
theorem num_tdiv {n : Int} : n.tdiv 10 = (if n < 0 then -((n.natAbs / 10 : Nat) : Int) else ((n.natAbs / 10 : Nat) : Int)) := by
  rcases Int.natAbs_eq n with h | h <;> generalize n.natAbs = N at h <;> subst h
  · rw [if_neg (by omega)]; exact (Int.ofNat_tdiv N 10).symm
  · rw [Int.neg_tdiv]
    rw [show (N : Int).tdiv 10 = ((N / 10 : Nat) : Int) from (Int.ofNat_tdiv N 10).symm]
    split <;> omega
theorem numL_step {n : Int} (h : 10 ≤ n.natAbs) : numL n = numL (n.tdiv 10) ++ [digB n.natAbs] := by
  rw [num_tdiv]
  unfold numL
  by_cases hn : n < 0
  · rw [if_pos hn, if_pos hn, if_pos (by omega), show (-((n.natAbs / 10 : Nat) : Int)).natAbs = n.natAbs / 10 by omega, decL_dig h, List.cons_append]
  · rw [if_neg hn, if_neg hn, if_neg (by omega), show (((n.natAbs / 10 : Nat) : Int)).natAbs = n.natAbs / 10 by omega, decL_dig h]
theorem number_aux : ∀ N : Nat, ∀ n : Int, n.natAbs ≤ N → ∀ w : World, I64 n → Ret Tryz.prog 45 [.int .i64 n] w fun u w' => u = .string (ofL (numL n)) ∧ Below w.heap.size w w' := by
  intro N
  induction N using Nat.strongRecOn with
  | _ N ih =>
  intro n hnN w hn
  refine ent45 _ _ _ ?_
  unfold I64 at hn
  simp (disch := first | omega | exact okFill_t rfl | exact okSize_t rfl | exact fun h => h | (simp only [World.size_alloc, World.size_drew, World.size_setCell, size_fill, bytesW]; omega)) only [go_sem, c45, c45S0, c45S1, c45S2, c45S4]
  have low : n ≤ -10 → drawW Tryz.prog (drawOps 0 c45code) [2] [(0, .int .i64 n), (16, .bool (decide (n < 0)))] w (thenQ Tryz.prog (sg c45S0) (thenQ Tryz.prog (sg c45S3) (finQ Tryz.prog [.tmp 2] fun u w' => u = .string (ofL (numL n)) ∧ Below w.heap.size w w'))) := by
    intro h1
    refine c45draw0 (Chg (fun _ => False) _) (Chg.refl _ _) ?_
    simp (disch := first | omega | exact okFill_t rfl | exact okSize_t rfl | exact fun h => h | (simp only [World.size_alloc, World.size_drew, World.size_setCell, size_fill, bytesW]; omega)) only [go_sem, c45, c45S0, c45S1, c45S2, c45S4, c45D0]
    have e : IntKind.u8.wrap (48 - n.tmod 10) = ((digB n.natAbs).toNat : Int) := by
      rw [num_tmod, dig_nat, wrap_u8_id _ (by split <;> omega) (by split <;> omega)]
      split <;> omega
    have e2 := num_tdiv (n := n)
    have e3 := num_tmod (n := n)
    have e5 := numL_step (n := n) (by omega)
    have hI : I64 (n.tdiv 10) := by rw [e2]; split <;> constructor <;> omega
    have hI2 : I64 (48 - n.tmod 10) := by rw [e3]; split <;> constructor <;> omega
    have hI3 : I64 n := hn
    have e6 := numL_le hI
    rw [e]
    have hih : ∀ w', Ret Tryz.prog 45 [.int .i64 (n.tdiv 10)] w' fun u w'' => u = .string (ofL (numL (n.tdiv 10))) ∧ Below w'.heap.size w' w'' := fun w' => ih (n.tdiv 10).natAbs (by rw [e2]; split <;> omega) _ (Nat.le_refl _) w' hI
    have oc := one_cell (b := digB n.natAbs) (t := 5)
    have c1 := cellB_one (digB n.natAbs)
    rw [e5]
    generalize n.tdiv 10 = m at *
    generalize digB n.natAbs = d at *
    refine ⟨hI3, hI2, Ret.mono (hih _) ?_, bsW_ones ty61mkI rfl rfl (by decide) (by decide) c1 ?_⟩
    · rintro _ w2 ⟨rfl, b2⟩
      simp (disch := first | omega | exact okFill_t rfl | exact okSize_t rfl | exact fun h => h | (simp only [World.size_alloc, World.size_drew, World.size_setCell, size_fill, bytesW]; omega)) only [go_sem, c45, c45S0, c45S1, c45S2, c45S4, c45D0]
      refine ⟨Chg.of_below b2, bsW_ones ty61mkI rfl rfl (by decide) (by decide) c1 ?_⟩
      simp (disch := first | omega | exact okFill_t rfl | exact okSize_t rfl | exact fun h => h | (simp only [World.size_alloc, World.size_drew, World.size_setCell, size_fill, bytesW]; omega)) only [go_sem, c45, c45S0, c45S1, c45S2, c45S4, c45D0]
      have hz2 : w.heap.size ≤ w2.heap.size := b2.size
      have ch : Chg (fun _ => False) w.drew (w2.alloc (.cells #[.int .u8 d.toNat] 5)) := (Chg.of_below b2).alloc _
      exact ⟨ch, [d], rfl, one_bytes (Below.refl _ _), ch, by rw [List.length_singleton]; omega, rfl, by (repeat' (first | with_reducible exact Below.refl _ _ | with_reducible assumption | (with_reducible refine Below.drew ?_) | (with_reducible refine Below.alloc ?_ ?_ _) | (with_reducible refine Below.setCell ?_ ?_ _) | (with_reducible refine Below.fill ?_ ?_) | (with_reducible refine Below.via (by assumption) ?_ ?_) | omega | (simp only [World.size_alloc, World.size_drew, World.size_setCell, size_fill, bytesW]; omega)))⟩
    · simp (disch := first | omega | exact okFill_t rfl | exact okSize_t rfl | exact fun h => h | (simp only [World.size_alloc, World.size_drew, World.size_setCell, size_fill, bytesW]; omega)) only [go_sem, c45, c45S0, c45S1, c45S2, c45S4, c45D0]
      have ch : Chg (fun _ => False) w.drew (w.alloc (.cells #[.int .u8 d.toNat] 5)).drew := ((Chg.refl _ w.drew).alloc (.cells #[.int .u8 d.toNat] 5))
      have hsz : (w.alloc (.cells #[.int .u8 d.toNat] 5)).drew.heap.size = w.heap.size + 1 := by simp [World.drew]
      have h0 : Below w.heap.size w (w.alloc (.cells #[.int .u8 d.toNat] 5)).drew := by (repeat' (first | with_reducible exact Below.refl _ _ | with_reducible assumption | (with_reducible refine Below.drew ?_) | (with_reducible refine Below.alloc ?_ ?_ _) | (with_reducible refine Below.setCell ?_ ?_ _) | (with_reducible refine Below.fill ?_ ?_) | (with_reducible refine Below.via (by assumption) ?_ ?_) | omega | (simp only [World.size_alloc, World.size_drew, World.size_setCell, size_fill, bytesW]; omega)))
      have hd : Below (w.heap.size + 1) (w.alloc (.cells #[.int .u8 d.toNat] 5)) (w.alloc (.cells #[.int .u8 d.toNat] 5)).drew := (Below.refl _ _).drew
      refine ⟨ch, Ret.mono (hih _) ?_, [d], rfl, one_bytes hd, ch, Ret.mono (hih _) ?_⟩
      · rintro _ w3 ⟨rfl, b3⟩
        rw [hsz] at b3
        simp (disch := first | omega | exact okFill_t rfl | exact okSize_t rfl | exact fun h => h | (simp only [World.size_alloc, World.size_drew, World.size_setCell, size_fill, bytesW]; omega)) only [go_sem, c45, c45S0, c45S1, c45S2, c45S4, c45D0]
        have c3 := ch.trans (Chg.of_below (S := fun _ => False) (b3.mono (by rw [hsz]; exact Nat.le_refl _)))
        exact ⟨c3, [d], rfl, one_bytes (hd.trans b3), c3, by rw [List.length_singleton]; omega, rfl, h0.trans (b3.mono (by omega))⟩
      · rintro _ w3 ⟨rfl, b3⟩
        rw [hsz] at b3
        simp (disch := first | omega | exact okFill_t rfl | exact okSize_t rfl | exact fun h => h | (simp only [World.size_alloc, World.size_drew, World.size_setCell, size_fill, bytesW]; omega)) only [go_sem, c45, c45S0, c45S1, c45S2, c45S4, c45D0]
        have c3 := ch.trans (Chg.of_below (S := fun _ => False) (b3.mono (by rw [hsz]; exact Nat.le_refl _)))
        exact ⟨c3, by omega, h0.trans (b3.mono (by omega))⟩
  have up : 0 ≤ n → W Tryz.prog (c45S3 ()) [(0, .int .i64 n)] w (finQ Tryz.prog [.tmp 2] fun u w' => u = .string (ofL (numL n)) ∧ Below w.heap.size w w') := by
    intro h0
    simp (disch := first | omega | exact okFill_t rfl | exact okSize_t rfl | exact fun h => h | (simp only [World.size_alloc, World.size_drew, World.size_setCell, size_fill, bytesW]; omega)) only [go_sem, c45, c45S0, c45S1, c45S2, c45S3, c45S4]
    refine ⟨fun h1 => ⟨by constructor <;> omega, ?_⟩, fun h1 => ?_⟩
    · have e : IntKind.u8.wrap (48 + n) = ((digB n.toNat).toNat : Int) := by
        rw [dig_nat, wrap_u8_id _ (by omega) (by omega)]; omega
      rw [e]
      refine bsW_ones ty61mkI rfl rfl (by decide) (by decide) (cellB_one (digB n.toNat)) ?_
      simp (disch := first | omega | exact okFill_t rfl | exact okSize_t rfl | exact fun h => h | (simp only [World.size_alloc, World.size_drew, World.size_setCell, size_fill, bytesW]; omega)) only [go_sem, c45, c45S0, c45S1, c45S2, c45S3, c45S4]
      refine ⟨[digB n.toNat], rfl, fun i c hi => one_cell w (digB n.toNat) 5 i c hi, ?_, (Below.refl _ _).alloc (Nat.le_refl _) _⟩
      unfold numL
      rw [if_neg (by omega), decL_one (by omega), show n.natAbs = n.toNat by omega]
    · refine c45draw1 (Chg (fun _ => False) _) (Chg.refl _ _) ?_
      simp (disch := first | omega | exact okFill_t rfl | exact okSize_t rfl | exact fun h => h | (simp only [World.size_alloc, World.size_drew, World.size_setCell, size_fill, bytesW]; omega)) only [go_sem, c45, c45S0, c45S1, c45S2, c45S3, c45S4, c45D1]
      have e : IntKind.u8.wrap (48 + n.tmod 10) = ((digB n.natAbs).toNat : Int) := by
        rw [num_tmod, dig_nat, wrap_u8_id _ (by split <;> omega) (by split <;> omega)]
        split <;> omega
      have e2 := num_tdiv (n := n)
      have e3 := num_tmod (n := n)
      have e5 := numL_step (n := n) (by omega)
      have hI : I64 (n.tdiv 10) := by rw [e2]; split <;> constructor <;> omega
      have hI2 : I64 (48 + n.tmod 10) := by rw [e3]; split <;> constructor <;> omega
      have hI3 : I64 n := hn
      have e6 := numL_le hI
      rw [e]
      have hih : ∀ w', Ret Tryz.prog 45 [.int .i64 (n.tdiv 10)] w' fun u w'' => u = .string (ofL (numL (n.tdiv 10))) ∧ Below w'.heap.size w' w'' := fun w' => ih (n.tdiv 10).natAbs (by rw [e2]; split <;> omega) _ (Nat.le_refl _) w' hI
      have oc := one_cell (b := digB n.natAbs) (t := 5)
      have c1 := cellB_one (digB n.natAbs)
      rw [e5]
      generalize n.tdiv 10 = m at *
      generalize digB n.natAbs = d at *
      refine ⟨hI3, hI2, Ret.mono (hih _) ?_, bsW_ones ty61mkI rfl rfl (by decide) (by decide) c1 ?_⟩
      · rintro _ w2 ⟨rfl, b2⟩
        simp (disch := first | omega | exact okFill_t rfl | exact okSize_t rfl | exact fun h => h | (simp only [World.size_alloc, World.size_drew, World.size_setCell, size_fill, bytesW]; omega)) only [go_sem, c45, c45S0, c45S1, c45S2, c45S3, c45S4, c45D1]
        refine ⟨Chg.of_below b2, bsW_ones ty61mkI rfl rfl (by decide) (by decide) c1 ?_⟩
        simp (disch := first | omega | exact okFill_t rfl | exact okSize_t rfl | exact fun h => h | (simp only [World.size_alloc, World.size_drew, World.size_setCell, size_fill, bytesW]; omega)) only [go_sem, c45, c45S0, c45S1, c45S2, c45S3, c45S4, c45D1]
        have hz2 : w.heap.size ≤ w2.heap.size := b2.size
        have ch : Chg (fun _ => False) w.drew (w2.alloc (.cells #[.int .u8 d.toNat] 5)) := (Chg.of_below b2).alloc _
        exact ⟨ch, [d], rfl, one_bytes (Below.refl _ _), ch, by rw [List.length_singleton]; omega, rfl, by (repeat' (first | with_reducible exact Below.refl _ _ | with_reducible assumption | (with_reducible refine Below.drew ?_) | (with_reducible refine Below.alloc ?_ ?_ _) | (with_reducible refine Below.setCell ?_ ?_ _) | (with_reducible refine Below.fill ?_ ?_) | (with_reducible refine Below.via (by assumption) ?_ ?_) | omega | (simp only [World.size_alloc, World.size_drew, World.size_setCell, size_fill, bytesW]; omega)))⟩
      · simp (disch := first | omega | exact okFill_t rfl | exact okSize_t rfl | exact fun h => h | (simp only [World.size_alloc, World.size_drew, World.size_setCell, size_fill, bytesW]; omega)) only [go_sem, c45, c45S0, c45S1, c45S2, c45S3, c45S4, c45D1]
        have ch : Chg (fun _ => False) w.drew (w.alloc (.cells #[.int .u8 d.toNat] 5)).drew := ((Chg.refl _ w.drew).alloc (.cells #[.int .u8 d.toNat] 5))
        have hsz : (w.alloc (.cells #[.int .u8 d.toNat] 5)).drew.heap.size = w.heap.size + 1 := by simp [World.drew]
        have h0 : Below w.heap.size w (w.alloc (.cells #[.int .u8 d.toNat] 5)).drew := by (repeat' (first | with_reducible exact Below.refl _ _ | with_reducible assumption | (with_reducible refine Below.drew ?_) | (with_reducible refine Below.alloc ?_ ?_ _) | (with_reducible refine Below.setCell ?_ ?_ _) | (with_reducible refine Below.fill ?_ ?_) | (with_reducible refine Below.via (by assumption) ?_ ?_) | omega | (simp only [World.size_alloc, World.size_drew, World.size_setCell, size_fill, bytesW]; omega)))
        have hd : Below (w.heap.size + 1) (w.alloc (.cells #[.int .u8 d.toNat] 5)) (w.alloc (.cells #[.int .u8 d.toNat] 5)).drew := (Below.refl _ _).drew
        refine ⟨ch, Ret.mono (hih _) ?_, [d], rfl, one_bytes hd, ch, Ret.mono (hih _) ?_⟩
        · rintro _ w3 ⟨rfl, b3⟩
          rw [hsz] at b3
          simp (disch := first | omega | exact okFill_t rfl | exact okSize_t rfl | exact fun h => h | (simp only [World.size_alloc, World.size_drew, World.size_setCell, size_fill, bytesW]; omega)) only [go_sem, c45, c45S0, c45S1, c45S2, c45S3, c45S4, c45D1]
          have c3 := ch.trans (Chg.of_below (S := fun _ => False) (b3.mono (by rw [hsz]; exact Nat.le_refl _)))
          exact ⟨c3, [d], rfl, one_bytes (hd.trans b3), c3, by rw [List.length_singleton]; omega, rfl, h0.trans (b3.mono (by omega))⟩
        · rintro _ w3 ⟨rfl, b3⟩
          rw [hsz] at b3
          simp (disch := first | omega | exact okFill_t rfl | exact okSize_t rfl | exact fun h => h | (simp only [World.size_alloc, World.size_drew, World.size_setCell, size_fill, bytesW]; omega)) only [go_sem, c45, c45S0, c45S1, c45S2, c45S3, c45S4, c45D1]
          have c3 := ch.trans (Chg.of_below (S := fun _ => False) (b3.mono (by rw [hsz]; exact Nat.le_refl _)))
          exact ⟨c3, by omega, h0.trans (b3.mono (by omega))⟩
  refine ⟨fun h1 => ⟨fun h2 => ⟨by constructor <;> omega, ?_⟩, fun h2 => ⟨fun h3 => absurd h3 (by omega), fun h3 => up h3⟩⟩, fun h1 => ⟨fun h2 => low h1, fun h2 => absurd h1 (by omega)⟩⟩
  have e : IntKind.u8.wrap (48 - n) = ((digB n.natAbs).toNat : Int) := by
    rw [dig_nat, wrap_u8_id _ (by omega) (by omega)]; omega
  rw [e]
  refine bsW_ones ty61mkI rfl rfl (by decide) (by decide) (cellB_one (digB n.natAbs)) ?_
  simp (disch := first | omega | exact okFill_t rfl | exact okSize_t rfl | exact fun h => h | (simp only [World.size_alloc, World.size_drew, World.size_setCell, size_fill, bytesW]; omega)) only [go_sem, c45, c45S0, c45S1, c45S2, c45S3, c45S4]
  refine ⟨[digB n.natAbs], rfl, fun i c hi => one_cell w (digB n.natAbs) 5 i c hi, by simp, ?_, (Below.refl _ _).alloc (Nat.le_refl _) _⟩
  unfold numL
  rw [if_pos h2, decL_one (by omega)]
theorem number_ok (n : Int) (w : World) (hn : I64 n) : Ret Tryz.prog 45 [.int .i64 n] w fun u w' => u = .string (ofL (numL n)) ∧ Below w.heap.size w w' := number_aux _ n (Nat.le_refl _) w hn
end Go.Proofs.YtmdhcpghofadcaaGreat

namespace Go.Proofs.YtmdhcpghofadcaaGreat
set_option linter.unusedSimpArgs false
set_option linter.unusedVariables false
set_option maxRecDepth 100000
open Go Go.Ann Go.RowKit Go.WideShapes
def namesT : List (List UInt8) := [[], [114, 100], [119, 114], [99, 97, 115], [105, 110, 99], [100, 101, 99], [101, 110, 113], [100, 101, 113], [112, 115, 104], [112, 111, 112], [97, 100, 100], [114, 101, 109], [104, 97, 115], [108, 99, 107], [117, 108, 107]]
def nameL (m : Int) : List UInt8 := if 0 ≤ m ∧ m < 15 then (namesT[m.toNat]?).getD [] else []
def argL (o : OpT) : List UInt8 := if o.Method = 2 ∨ o.Method = 6 ∨ o.Method = 8 ∨ o.Method = 10 ∨ o.Method = 11 ∨ o.Method = 12 then numL o.Arg else if o.Method = 3 then numL o.Arg ++ 58 :: numL o.Second else []
def resL (o : OpT) : List UInt8 := if o.Done = true ∧ (o.Method = 1 ∨ o.Method = 3 ∨ o.Method = 7 ∨ o.Method = 9 ∨ o.Method = 10 ∨ o.Method = 11 ∨ o.Method = 12) then 61 :: numL o.Result else []
def labelL (o : OpT) : List UInt8 := nameL o.Method ++ argL o ++ resL o
theorem i64_of_k {n : Int} (h : kOk .i64 n) : I64 n := by
  unfold kOk at h
  simp [Lit.wf, IntKind.min, IntKind.max, IntKind.signed, IntKind.bits] at h
  exact ⟨by omega, by omega⟩
theorem nameL_le (m : Int) : (nameL m).length ≤ 3 := by
  unfold nameL
  split
  · rename_i h
    have : ∀ k : Nat, k < 15 → ((namesT[k]?).getD []).length ≤ 3 := by decide
    exact this _ (by omega)
  · simp
theorem names_one : ∀ u ∈ namesT.flatMap (fun l => [Value.string (ofL l)]), u.oneCell' = true := by
  intro u hu
  obtain ⟨l, _, h⟩ := List.mem_flatMap.1 hu
  rw [List.mem_singleton] at h; subst h; rfl
theorem name_ok (m : Int) (w : World) : Ret Tryz.prog 158 [.int .i64 m] w fun u w' => u = .string (ofL (nameL m)) ∧ Below w.heap.size w w' := by
  refine ent158 _ _ _ ?_
  simp (disch := first | omega | exact okFill_t rfl | exact okSize_t rfl | exact fun h => h | (simp only [World.size_alloc, World.size_drew, World.size_setCell, size_fill, bytesW]; omega)) only [go_sem, c158, c158S0]
  refine bsW_ones ty229mkI rfl rfl (by decide) (by decide) names_one ?_
  have hg : ∀ (h0 : 0 ≤ m) (h1 : m < 15), [Value.string (ofL []), .string (ofL [114, 100]), .string (ofL [119, 114]), .string (ofL [99, 97, 115]), .string (ofL [105, 110, 99]), .string (ofL [100, 101, 99]), .string (ofL [101, 110, 113]), .string (ofL [100, 101, 113]), .string (ofL [112, 115, 104]), .string (ofL [112, 111, 112]), .string (ofL [97, 100, 100]), .string (ofL [114, 101, 109]), .string (ofL [104, 97, 115]), .string (ofL [108, 99, 107]), .string (ofL [117, 108, 107])][m.toNat]? = some (.string (ofL (nameL m))) := by
    intro h0 h1
    show (namesT.map fun l => Value.string (ofL l))[m.toNat]? = _
    have hk : m.toNat < namesT.length := by show m.toNat < 15; omega
    unfold nameL
    rw [if_pos ⟨h0, h1⟩, List.getElem?_map, List.getElem?_eq_getElem hk]
    rfl
  have hb : ∀ cs, Below w.heap.size w (w.alloc (.cells cs 9)) := fun cs => (Below.refl _ _).alloc (Nat.le_refl _) _
  simp (disch := first | omega | exact okFill_t rfl | exact okSize_t rfl | exact fun h => h | (simp only [World.size_alloc, World.size_drew, World.size_setCell, size_fill, bytesW]; omega)) only [go_sem, c158, c158S0]
  refine ⟨fun h0 => ⟨fun h1 => ⟨?_, hb _⟩, fun h1 => ⟨⟨h0, h1⟩, ?_⟩⟩, fun h0 => ⟨?_, hb _⟩⟩
  · unfold nameL; rw [if_neg (by omega)]
  · rw [hg h0 h1]
    simp (disch := first | omega | exact okFill_t rfl | exact okSize_t rfl | exact fun h => h | (simp only [World.size_alloc, World.size_drew, World.size_setCell, size_fill, bytesW]; omega)) only [go_sem, c158, c158S0]
    exact hb _
  · unfold nameL; rw [if_neg (by omega)]
section
variable {o : OpT} {w : World} {b0 : Nat} {s : List UInt8}
theorem label1 {K : Value → World → Prop} (h0 : Blk w b0 o.enc.toArray 56) (ho : o.wf) (hs : s.length ≤ 100) (hK : ∀ w', Below w.heap.size w w' → K (.string (ofL (s ++ resL o))) w') (b : Bool) (hb : resL o = if b = true then 61 :: numL o.Result else []) :
    W Tryz.prog (c122S1 ()) [(1, .pointer (some ⟨b0, 0, none⟩)), (3, .string (ofL s)), (39, .bool b)] w (blockQ 1 (thenQ Tryz.prog (sg c122S2) (finQ Tryz.prog [.tmp 2] K))) := by
  have ao := o.at
  have r0 := h0.rules
  cases b with
  | false =>
    rw [hb] at hK
    simp only [Bool.false_eq_true, if_false, List.append_nil] at hK
    simp (disch := first | omega | exact okFill_t rfl | exact okSize_t rfl | exact fun h => h | (simp only [World.size_alloc, World.size_drew, World.size_setCell, size_fill, bytesW]; omega)) only [go_sem, c122, c122S0, c122S1, c122S2, c122S3, c122S4, c122S5]
    exact hK _ (Below.refl _ _)
  | true =>
    rw [hb] at hK
    simp only [if_true] at hK
    simp (disch := first | omega | exact okFill_t rfl | exact okSize_t rfl | exact fun h => h | (simp only [World.size_alloc, World.size_drew, World.size_setCell, size_fill, bytesW]; omega)) only [go_sem, c122, c122S0, c122S1, c122S2, c122S3, c122S4, c122S5, r0, ao]
    have hR : I64 o.Result := i64_of_k ho.2.2.2.2.2.2.2.1
    have hl := numL_le hR
    refine Ret.mono (digits_ok _ _ hR) ?_
    rintro _ w2 ⟨rfl, b2⟩
    simp (disch := first | omega | exact okFill_t rfl | exact okSize_t rfl | exact fun h => h | (simp only [World.size_alloc, World.size_drew, World.size_setCell, size_fill, bytesW]; omega)) only [go_sem, c122, c122S0, c122S1, c122S2, c122S3, c122S4, c122S5]
    exact ⟨by omega, by omega, hK _ b2⟩
theorem label4 {K : Value → World → Prop} (h0 : Blk w b0 o.enc.toArray 56) (ho : o.wf) (hs : s.length ≤ 100) (hK : ∀ w', Below w.heap.size w w' → K (.string (ofL (s ++ resL o))) w') : W Tryz.prog (c122S4 ()) [(1, .pointer (some ⟨b0, 0, none⟩)), (3, .string (ofL s))] w (finQ Tryz.prog [.tmp 2] K) := by
  have ao := o.at
  have r0 := h0.rules
  have L := label1 h0 ho hs hK
  simp (disch := first | omega | exact okFill_t rfl | exact okSize_t rfl | exact fun h => h | (simp only [World.size_alloc, World.size_drew, World.size_setCell, size_fill, bytesW]; omega)) only [go_sem, c122, c122S0, c122S2, c122S3, c122S4, c122S5, r0, ao]
  refine ⟨fun hd => ?_, fun hd => ?_⟩
  · have e : resL o = [] := by unfold resL; rw [hd]; simp
    rw [e, List.append_nil] at hK
    exact hK _ (Below.refl _ _)
  · refine ⟨fun e1 => L _ ?_, fun e1 => ⟨fun e2 => L _ ?_, fun e2 => ⟨fun e3 => L _ ?_, fun e3 => ⟨fun e4 => L _ ?_, fun e4 => ⟨fun e5 => L _ ?_, fun e5 => ⟨fun e6 => L _ ?_, fun e6 => L _ ?_⟩⟩⟩⟩⟩⟩
    all_goals
      unfold resL
      rw [hd]
      simp [*]
theorem label0 {K : Value → World → Prop} (h0 : Blk w b0 o.enc.toArray 56) (ho : o.wf) (hs : s.length ≤ 3) (hK : ∀ w', Below w.heap.size w w' → K (.string (ofL (s ++ argL o ++ resL o))) w') (b : Bool)
    (hb1 : b = true → argL o = numL o.Arg) (hb2 : b = false → argL o = if o.Method = 3 then numL o.Arg ++ 58 :: numL o.Second else []) :
    W Tryz.prog (c122S0 ()) [(1, .pointer (some ⟨b0, 0, none⟩)), (3, .string (ofL s)), (8, .int .i64 o.Method), (9, .bool b)] w (blockQ 0 (thenQ Tryz.prog (sg c122S4) (finQ Tryz.prog [.tmp 2] K))) := by
  have ao := o.at
  have r0 := h0.rules
  have hlt := h0.lt
  have hA : I64 o.Arg := i64_of_k ho.2.2.2.2.2.1
  have hS : I64 o.Second := i64_of_k ho.2.2.2.2.2.2.1
  have hlA := numL_le hA
  have hlS := numL_le hS
  cases b with
  | true =>
    rw [hb1 rfl] at hK
    simp (disch := first | omega | exact okFill_t rfl | exact okSize_t rfl | exact fun h => h | (simp only [World.size_alloc, World.size_drew, World.size_setCell, size_fill, bytesW]; omega)) only [go_sem, c122, c122S0, c122S1, c122S2, c122S3, c122S5, r0, ao]
    refine Ret.mono (digits_ok _ _ hA) ?_
    rintro _ w2 ⟨rfl, b2⟩
    simp (disch := first | omega | exact okFill_t rfl | exact okSize_t rfl | exact fun h => h | (simp only [World.size_alloc, World.size_drew, World.size_setCell, size_fill, bytesW]; omega)) only [go_sem, c122, c122S0, c122S1, c122S2, c122S3, c122S5]
    exact ⟨by omega, label4 (h0.below b2 hlt) ho (by rw [List.length_append]; omega) fun w' b => hK w' (b2.trans (b.mono b2.size))⟩
  | false =>
    rw [hb2 rfl] at hK
    simp (disch := first | omega | exact okFill_t rfl | exact okSize_t rfl | exact fun h => h | (simp only [World.size_alloc, World.size_drew, World.size_setCell, size_fill, bytesW]; omega)) only [go_sem, c122, c122S0, c122S1, c122S2, c122S3, c122S5, r0, ao]
    refine ⟨fun h3 => ?_, fun h3 => ?_⟩
    · rw [if_pos h3] at hK
      refine c122draw0 (Chg (fun _ => False) _) (Chg.refl _ _) ?_
      simp (disch := first | omega | exact okFill_t rfl | exact okSize_t rfl | exact fun h => h | (simp only [World.size_alloc, World.size_drew, World.size_setCell, size_fill, bytesW]; omega)) only [go_sem, c122, c122S0, c122S1, c122S2, c122S3, c122S5, c122D0, r0, ao]
      refine Ret.mono (digits_ok _ _ hA) ?_
      rintro _ w2 ⟨rfl, b2⟩
      have r2 := (h0.below ((Below.refl _ w).drew.trans b2) hlt).rules
      simp (disch := first | omega | exact okFill_t rfl | exact okSize_t rfl | exact fun h => h | (simp only [World.size_alloc, World.size_drew, World.size_setCell, size_fill, bytesW]; omega)) only [go_sem, c122, c122S0, c122S1, c122S2, c122S3, c122S5, c122D0, r0, r2, ao]
      have b02 : Below w.heap.size w w2 := (Below.refl _ w).drew.trans b2
      refine ⟨Chg.of_below b2, by omega, Ret.mono (digits_ok _ _ hS) ?_⟩
      rintro _ w3 ⟨rfl, b3⟩
      have b03 := b02.trans (b3.mono b02.size)
      have c3 : Chg (fun _ => False) w.drew w3 := (Chg.of_below b2).trans (Chg.of_below b3)
      simp (disch := first | omega | exact okFill_t rfl | exact okSize_t rfl | exact fun h => h | (simp only [World.size_alloc, World.size_drew, World.size_setCell, size_fill, bytesW]; omega)) only [go_sem, c122, c122S0, c122S1, c122S2, c122S3, c122S5, c122D0, r0, r2, ao]
      simp only [List.append_assoc, List.singleton_append] at hK
      refine ⟨c3, by simp only [List.length_append, List.length_cons, List.length_nil]; omega, by simp only [List.length_append, List.length_cons, List.length_nil]; omega, ?_⟩
      simp only [List.append_assoc, List.singleton_append]
      refine label4 (h0.below b03 hlt) ho (by simp only [List.length_append, List.length_cons]; omega) fun w' b => ?_
      simp only [List.append_assoc, List.cons_append]
      exact hK w' (b03.trans (b.mono b03.size))
    · rw [if_neg h3, List.append_nil] at hK
      exact label4 h0 ho (by omega) hK
end
theorem label_ok (o : OpT) (ho : o.wf) (w : World) : Ret Tryz.prog 122 [.agg o.enc.toArray] w fun u w' => u = .string (ofL (labelL o)) ∧ Below w.heap.size w w' := by
  refine ent122 _ _ _ ?_
  have ao := o.at
  simp (disch := first | omega | exact okFill_t rfl | exact okSize_t rfl | exact fun h => h | (simp only [World.size_alloc, World.size_drew, World.size_setCell, size_fill, bytesW]; omega)) only [go_sem, c122, c122S0, c122S1, c122S2, c122S3, c122S4, c122S5, ao]
  have hB := Blk.new (w := w) (cs := o.enc.toArray) (t := 56)
  have b1 : Below w.heap.size w (w.alloc (.cells o.enc.toArray 56)) := (Below.refl _ _).alloc (Nat.le_refl _) _
  have hbl := hB.lt
  generalize w.alloc (.cells o.enc.toArray 56) = w1 at hB b1 hbl ⊢
  generalize w.heap.size = b0 at hB b1 hbl ⊢
  refine Ret.mono (name_ok _ _) ?_
  rintro _ w2 ⟨rfl, b2⟩
  have hB2 := hB.below b2 hbl
  have r2 := hB2.rules
  have hn3 := nameL_le o.Method
  simp (disch := first | omega | exact okFill_t rfl | exact okSize_t rfl | exact fun h => h | (simp only [World.size_alloc, World.size_drew, World.size_setCell, size_fill, bytesW]; omega)) only [go_sem, c122, c122S1, c122S2, c122S3, c122S5, r2, ao]
  have b02 : Below b0 w w2 := b1.trans (b2.mono (by omega))
  have hlt2 := hB2.lt
  have L := label0 hB2 ho hn3 (K := fun u w' => u = .string (ofL (labelL o)) ∧ Below b0 w w') fun w' b => ⟨rfl, b02.trans (b.mono (by omega))⟩
  refine ⟨fun e1 => L _ ?_ ?_, fun e1 => ⟨fun e2 => L _ ?_ ?_, fun e2 => ⟨fun e3 => L _ ?_ ?_, fun e3 => ⟨fun e4 => L _ ?_ ?_, fun e4 => ⟨fun e5 => L _ ?_ ?_, fun e5 => L _ ?_ ?_⟩⟩⟩⟩⟩
  all_goals
    unfold argL
    first
      | (simp [*]; done)
      | (simp [*]; intros; exfalso; omega)
theorem rname_get {m : Int} (h0 : 1 ≤ m) (h1 : m ≤ 14) : (namesT.tail.map fun l => Value.string (ofL l))[(m - 1).toNat]? = some (.string (ofL (nameL m))) := by
  have hk : m.toNat < namesT.length := by show m.toNat < 15; omega
  have e : (m - 1).toNat + 1 = m.toNat := by omega
  unfold nameL
  rw [if_pos ⟨by omega, by omega⟩, List.getElem?_map, List.getElem?_tail, e, List.getElem?_eq_getElem hk]
  rfl
theorem nameL_out {m : Int} (h : m < 1 ∨ 14 < m) : nameL m = [] := by
  unfold nameL
  split
  · obtain rfl : m = 0 := by omega
    rfl
  · rfl
theorem label_out {o : OpT} (h : o.Method < 1 ∨ 14 < o.Method) : labelL o = [] := by
  unfold labelL argL resL
  rw [nameL_out h, if_neg (by omega), if_neg (by omega), if_neg (by omega)]
  rfl
section
variable {o : OpT} {w : World} {b0 : Nat} {s : List UInt8}
theorem rlabel1 {K : Value → World → Prop} (h0 : Blk w b0 o.enc.toArray 56) (ho : o.wf) (hs : s.length ≤ 100) (hK : ∀ w', Below w.heap.size w w' → K (.string (ofL (s ++ resL o))) w') :
    W Tryz.prog (c159S1 ()) [(1, .pointer (some ⟨b0, 0, none⟩)), (4, .int .i64 o.Method), (5, .string (ofL s))] w (finQ Tryz.prog [.tmp 2] K) := by
  have ao := o.at
  have r0 := h0.rules
  have hR : I64 o.Result := i64_of_k ho.2.2.2.2.2.2.2.1
  have hl := numL_le hR
  have no : ¬ (o.Done = true ∧ (o.Method = 1 ∨ o.Method = 3 ∨ o.Method = 7 ∨ o.Method = 9 ∨ o.Method = 10 ∨ o.Method = 11 ∨ o.Method = 12)) → K (.string (ofL s)) w := fun h => by
    have := hK w (Below.refl _ _)
    unfold resL at this
    rw [if_neg h, List.append_nil] at this
    exact this
  have yes : (o.Done = true ∧ (o.Method = 1 ∨ o.Method = 3 ∨ o.Method = 7 ∨ o.Method = 9 ∨ o.Method = 10 ∨ o.Method = 11 ∨ o.Method = 12)) → ∀ w', Below w.heap.size w w' → K (.string (ofL ((s ++ [61]) ++ numL o.Result))) w' := fun h w' b => by
    have := hK w' b
    unfold resL at this
    rw [if_pos h] at this
    rw [List.append_assoc]
    exact this
  clear hK
  generalize hX : s ++ [61] = X at yes
  have hXl : X.length = s.length + 1 := by rw [← hX]; simp
  simp (disch := first | omega | exact okFill_t rfl | exact okSize_t rfl | exact fun h => h | (simp only [World.size_alloc, World.size_drew, World.size_setCell, size_fill, bytesW]; omega)) only [go_sem, c159, c159S0, c159S1, c159S2, c159S3, r0, ao, hX]
  repeat' first | with_reducible apply And.intro | with_reducible intro h
  all_goals first
    | omega
    | exact no (by rintro ⟨hd, hm⟩; omega)
    | exact no (by simp_all)
    | (refine Ret.mono (number_ok _ _ hR) ?_
       rintro _ w2 ⟨rfl, b2⟩
       simp (disch := first | omega | exact okFill_t rfl | exact okSize_t rfl | exact fun h => h | (simp only [World.size_alloc, World.size_drew, World.size_setCell, size_fill, bytesW]; omega)) only [go_sem, c159, c159S0, c159S1, c159S2, c159S3]
       exact ⟨by omega, yes ⟨by assumption, by omega⟩ _ b2⟩)
theorem rlabel2 {K : Value → World → Prop} (h0 : Blk w b0 o.enc.toArray 56) (ho : o.wf) (hs : s.length ≤ 70) (hK : ∀ w', Below w.heap.size w w' → K (.string (ofL (s ++ (if o.Method = 2 ∨ o.Method = 6 ∨ o.Method = 8 ∨ o.Method = 10 ∨ o.Method = 11 ∨ o.Method = 12 then numL o.Arg else []) ++ resL o))) w') :
    W Tryz.prog (c159S2 ()) [(1, .pointer (some ⟨b0, 0, none⟩)), (4, .int .i64 o.Method), (5, .string (ofL s))] w (finQ Tryz.prog [.tmp 2] K) := by
  have ao := o.at
  have r0 := h0.rules
  have hR : I64 o.Arg := i64_of_k ho.2.2.2.2.2.1
  have hl := numL_le hR
  have hlt := h0.lt
  have no : ¬ (o.Method = 2 ∨ o.Method = 6 ∨ o.Method = 8 ∨ o.Method = 10 ∨ o.Method = 11 ∨ o.Method = 12) → W Tryz.prog (c159S1 ()) [(1, .pointer (some ⟨b0, 0, none⟩)), (4, .int .i64 o.Method), (5, .string (ofL s))] w (finQ Tryz.prog [.tmp 2] K) := fun h => by
    rw [if_neg h, List.append_nil] at hK
    exact rlabel1 h0 ho (by omega) hK
  have yes : (o.Method = 2 ∨ o.Method = 6 ∨ o.Method = 8 ∨ o.Method = 10 ∨ o.Method = 11 ∨ o.Method = 12) → ∀ w', Below w.heap.size w w' → W Tryz.prog (c159S1 ()) [(1, .pointer (some ⟨b0, 0, none⟩)), (4, .int .i64 o.Method), (5, .string (ofL (s ++ numL o.Arg)))] w' (finQ Tryz.prog [.tmp 2] K) := fun h w' b => by
    rw [if_pos h] at hK
    exact rlabel1 (h0.below b hlt) ho (by rw [List.length_append]; omega) fun w'' b' => hK w'' (b.trans (b'.mono b.size))
  clear hK
  simp (disch := first | omega | exact okFill_t rfl | exact okSize_t rfl | exact fun h => h | (simp only [World.size_alloc, World.size_drew, World.size_setCell, size_fill, bytesW]; omega)) only [go_sem, c159, c159S0, c159S2, c159S3, r0, ao]
  repeat' first | with_reducible apply And.intro | with_reducible intro h
  all_goals first
    | omega
    | exact no (by omega)
    | (refine Ret.mono (number_ok _ _ hR) ?_
       rintro _ w2 ⟨rfl, b2⟩
       simp (disch := first | omega | exact okFill_t rfl | exact okSize_t rfl | exact fun h => h | (simp only [World.size_alloc, World.size_drew, World.size_setCell, size_fill, bytesW]; omega)) only [go_sem, c159, c159S0, c159S2, c159S3]
       exact ⟨by omega, yes (by omega) _ b2⟩)
end
theorem rlabel_ok (o : OpT) (ho : o.wf) (w : World) : Ret Tryz.prog 159 [.agg o.enc.toArray] w fun u w' => u = .string (ofL (labelL o)) ∧ Below w.heap.size w w' := by
  refine ent159 _ _ _ ?_
  have ao := o.at
  simp (disch := first | omega | exact okFill_t rfl | exact okSize_t rfl | exact fun h => h | (simp only [World.size_alloc, World.size_drew, World.size_setCell, size_fill, bytesW]; omega)) only [go_sem, c159, c159S0, c159S1, c159S2, c159S3, ao]
  have hB := Blk.new (w := w) (cs := o.enc.toArray) (t := 56)
  have b1 : Below w.heap.size w (w.alloc (.cells o.enc.toArray 56)) := (Below.refl _ _).alloc (Nat.le_refl _) _
  have hbl := hB.lt
  generalize w.alloc (.cells o.enc.toArray 56) = w1 at hB b1 hbl ⊢
  generalize w.heap.size = b0 at hB b1 hbl ⊢
  refine bsW_ones ty229mkI rfl rfl (by decide) (by decide) (fun u hu => names_one u (List.mem_of_mem_tail (l := namesT.flatMap (fun l => [Value.string (ofL l)])) hu)) ?_
  have hb : ∀ cs, Below w1.heap.size w1 (w1.alloc (.cells cs 9)) := fun cs => (Below.refl _ _).alloc (Nat.le_refl _) _
  have hB2 := fun cs => hB.below (hb cs) hbl
  have r0 := hB.rules
  have b02 := fun cs => b1.trans ((hb cs).mono (by omega))
  simp (disch := first | omega | exact okFill_t rfl | exact okSize_t rfl | exact fun h => h | (simp only [World.size_alloc, World.size_drew, World.size_setCell, size_fill, bytesW]; omega)) only [go_sem, c159, c159S0, c159S1, c159S3, ao, r0]
  refine ⟨fun h1 => ⟨fun h2 => ⟨by rw [label_out (.inr h2)], b02 _⟩, fun h2 => ⟨by constructor <;> omega, ⟨by omega, by omega⟩, ?_⟩⟩, fun h1 => ⟨by rw [label_out (.inl h1)], b02 _⟩⟩
  have hg := rname_get (m := o.Method) h1 h2
  have hg' : [Value.string (ofL [114, 100]), .string (ofL [119, 114]), .string (ofL [99, 97, 115]), .string (ofL [105, 110, 99]), .string (ofL [100, 101, 99]), .string (ofL [101, 110, 113]), .string (ofL [100, 101, 113]), .string (ofL [112, 115, 104]), .string (ofL [112, 111, 112]), .string (ofL [97, 100, 100]), .string (ofL [114, 101, 109]), .string (ofL [104, 97, 115]), .string (ofL [108, 99, 107]), .string (ofL [117, 108, 107])][(o.Method - 1).toNat]? = some (.string (ofL (nameL o.Method))) := hg
  rw [hg']
  generalize (#[Value.string (ofL [114, 100]), .string (ofL [119, 114]), .string (ofL [99, 97, 115]), .string (ofL [105, 110, 99]), .string (ofL [100, 101, 99]), .string (ofL [101, 110, 113]), .string (ofL [100, 101, 113]), .string (ofL [112, 115, 104]), .string (ofL [112, 111, 112]), .string (ofL [97, 100, 100]), .string (ofL [114, 101, 109]), .string (ofL [104, 97, 115]), .string (ofL [108, 99, 107]), .string (ofL [117, 108, 107])] : Array Value) = cs
  have hB3 := hB2 cs
  have b3 := b02 cs
  generalize w1.alloc (.cells cs 9) = w2 at hB3 b3 ⊢
  have hn3 := nameL_le o.Method
  have hlt3 := hB3.lt
  have ee : labelL o = (nameL o.Method ++ if o.Method = 3 then numL o.Arg ++ 58 :: numL o.Second else []) ++ (if o.Method = 2 ∨ o.Method = 6 ∨ o.Method = 8 ∨ o.Method = 10 ∨ o.Method = 11 ∨ o.Method = 12 then numL o.Arg else []) ++ resL o := by
    unfold labelL argL
    by_cases h3 : o.Method = 3
    · rw [if_pos h3, if_neg (by omega), if_neg (by omega)]; simp
    · simp only [if_neg h3, List.append_nil]
  rw [ee]
  have hA : I64 o.Arg := i64_of_k ho.2.2.2.2.2.1
  have hS : I64 o.Second := i64_of_k ho.2.2.2.2.2.2.1
  have hlA := numL_le hA
  have hlS := numL_le hS
  have r3 := hB3.rules
  simp (disch := first | omega | exact okFill_t rfl | exact okSize_t rfl | exact fun h => h | (simp only [World.size_alloc, World.size_drew, World.size_setCell, size_fill, bytesW]; omega)) only [go_sem, c159, c159S0, c159S1, c159S3]
  refine ⟨fun h3 => ?_, fun h3 => ?_⟩
  · refine c159draw0 (Chg (fun _ => False) _) (Chg.refl _ _) ?_
    simp (disch := first | omega | exact okFill_t rfl | exact okSize_t rfl | exact fun h => h | (simp only [World.size_alloc, World.size_drew, World.size_setCell, size_fill, bytesW]; omega)) only [go_sem, c159, c159S0, c159S1, c159S3, c159D0, r3, ao]
    refine Ret.mono (number_ok _ _ hA) ?_
    rintro _ w4 ⟨rfl, b4⟩
    have b24 : Below w2.heap.size w2 w4 := (Below.refl _ w2).drew.trans b4
    have r4 := (hB3.below b24 hlt3).rules
    simp (disch := first | omega | exact okFill_t rfl | exact okSize_t rfl | exact fun h => h | (simp only [World.size_alloc, World.size_drew, World.size_setCell, size_fill, bytesW]; omega)) only [go_sem, c159, c159S0, c159S1, c159S3, c159D0, r3, r4, ao]
    refine ⟨Chg.of_below b4, by omega, by simp only [List.length_append]; omega, Ret.mono (number_ok _ _ hS) ?_⟩
    rintro _ w5 ⟨rfl, b5⟩
    have b25 := b24.trans (b5.mono b24.size)
    have c5 : Chg (fun _ => False) w2.drew w5 := (Chg.of_below b4).trans (Chg.of_below b5)
    simp (disch := first | omega | exact okFill_t rfl | exact okSize_t rfl | exact fun h => h | (simp only [World.size_alloc, World.size_drew, World.size_setCell, size_fill, bytesW]; omega)) only [go_sem, c159, c159S0, c159S1, c159S3, c159D0, r3, r4, ao]
    refine ⟨c5, by simp only [List.length_append, List.length_cons, List.length_nil]; omega, rlabel2 (hB3.below b25 hlt3) ho (by simp only [List.length_append, List.length_cons, List.length_nil]; omega) fun w' b => ⟨?_, b3.trans ((b25.trans (b.mono b25.size)).mono (by omega))⟩⟩
    rw [if_pos h3]
    simp
  · rw [if_neg h3, List.append_nil]
    exact rlabel2 hB3 ho (by omega) fun w' b => ⟨rfl, b3.trans (b.mono (by omega))⟩
end Go.Proofs.YtmdhcpghofadcaaGreat

namespace Go.Proofs.YtmdhcpghofadcaaGreat
set_option linter.unusedSimpArgs false
set_option linter.unusedVariables false
set_option maxRecDepth 100000
open Go Go.Ann Go.RowKit Go.WideShapes
structure Sc where
  lo : Int
  hi : Int
  wd : Nat
deriving DecidableEq
def Sc.enc (s : Sc) : List Value := [.int .i64 s.lo, .int .i64 s.hi, .int .i64 s.wd]
structure Sc.ok (s : Sc) : Prop where
  lo0 : 0 ≤ s.lo
  le : s.lo ≤ s.hi
  hi1 : s.hi ≤ 2199023255552
  wd8 : 8 ≤ s.wd
  wd1 : s.wd ≤ 200
def Sc.col (s : Sc) (t : Int) : Int := if s.hi = s.lo then 0 else (min t s.hi - s.lo) * (s.wd - 1) / (s.hi - s.lo)
theorem Sc.col_le {s : Sc} (h : s.ok) {t : Int} (ht : s.lo ≤ t) : 0 ≤ s.col t ∧ s.col t ≤ (s.wd : Int) - 1 := by
  obtain ⟨h1, h2, h3, h4, h5⟩ := h
  unfold Sc.col
  split
  · omega
  · have hp : 0 < s.hi - s.lo := by omega
    have hm : 0 ≤ min t s.hi - s.lo := by omega
    refine ⟨Int.ediv_nonneg (Int.mul_nonneg hm (by omega)) (by omega), ?_⟩
    have : (min t s.hi - s.lo) * ((s.wd : Int) - 1) ≤ ((s.wd : Int) - 1) * (s.hi - s.lo) := by
      rw [Int.mul_comm]
      exact Int.mul_le_mul_of_nonneg_left (by omega) (by omega)
    calc (min t s.hi - s.lo) * ((s.wd : Int) - 1) / (s.hi - s.lo) ≤ ((s.wd : Int) - 1) * (s.hi - s.lo) / (s.hi - s.lo) := Int.ediv_le_ediv hp this
      _ = (s.wd : Int) - 1 := Int.mul_ediv_cancel _ (by omega)
theorem Sc.col_mono {s : Sc} (h : s.ok) {t u : Int} (ht : s.lo ≤ t) (hu : t ≤ u) : s.col t ≤ s.col u := by
  obtain ⟨h1, h2, h3, h4, h5⟩ := h
  unfold Sc.col
  split
  · omega
  · exact Int.ediv_le_ediv (by omega) (Int.mul_le_mul_of_nonneg_right (by omega) (by omega))
def Sc.a (s : Sc) (o : OpT) : Nat := (s.col o.Invoke).toNat
def Sc.b (s : Sc) (o : OpT) : Nat := if o.Done = true then (s.col o.Return).toNat else s.wd - 1
structure Sc.has (s : Sc) (o : OpT) : Prop where
  i1 : s.lo ≤ o.Invoke
  i2 : o.Invoke ≤ s.hi
  r1 : o.Done = true → o.Invoke ≤ o.Return
  r2 : o.Return ≤ s.hi
theorem Sc.ab {s : Sc} (h : s.ok) {o : OpT} (ho : s.has o) : s.a o ≤ s.b o ∧ s.b o < s.wd ∧ s.col o.Invoke = s.a o ∧ (if o.Done = true then s.col o.Return else (s.wd : Int) - 1) = s.b o := by
  have h1 := Sc.col_le h ho.i1
  have hw := h.wd8
  by_cases hd : o.Done = true
  · have h2 := Sc.col_le h (Int.le_trans ho.i1 (ho.r1 hd))
    have h3 := Sc.col_mono h ho.i1 (ho.r1 hd)
    unfold Sc.a Sc.b
    simp only [hd, if_true]
    omega
  · unfold Sc.a Sc.b
    simp only [hd, if_false]
    simp only [Bool.not_eq_true] at hd
    simp only [hd, Bool.false_eq_true, if_false]
    omega
def signB (o : OpT) (a b at_ : Nat) : UInt8 := if at_ = b then (if o.Done = true then (if a = b then 124 else 93) else 62) else if at_ = a then 91 else ((labelL o)[at_ - a - 1]?).getD 45
def barF (s : Sc) (o : OpT) (f : Nat → UInt8) (k : Nat) : UInt8 := if s.a o ≤ k ∧ k ≤ s.b o then signB o (s.a o) (s.b o) k else f k
def rowF (s : Sc) (l : List OpT) : Nat → UInt8 := l.foldl (fun f o => barF s o f) fun _ => 46
def bytesF (n : Nat) (f : Nat → UInt8) : List UInt8 := (List.range n).map f
theorem bytesF_len (n : Nat) (f : Nat → UInt8) : (bytesF n f).length = n := by simp [bytesF]
theorem bytesF_get {n : Nat} {f : Nat → UInt8} {k : Nat} (h : k < n) : (bytesF n f)[k]? = some (f k) := by simp [bytesF, h]
theorem bytesF_ext {n : Nat} {f g : Nat → UInt8} (h : ∀ k, k < n → f k = g k) : bytesF n f = bytesF n g := by
  unfold bytesF
  exact List.map_congr_left fun k hk => h k (List.mem_range.1 hk)
theorem bytesF_set {n : Nat} {f g : Nat → UInt8} {k : Nat} {c : UInt8} (hc : g k = c) (h : ∀ j, j < n → j ≠ k → f j = g j) : ((bytesF n f).map byteV).set k (byteV c) = (bytesF n g).map byteV := by
  refine List.ext_getElem (by simp [bytesF]) fun j h1 h2 => ?_
  rw [List.getElem_set]
  by_cases hj : k = j
  · subst hj; simp [bytesF, hc]
  · have hjn : j < n := by simpa [bytesF] using h2
    rw [if_neg hj]
    simp [bytesF, h j hjn fun e => hj e.symm]
theorem bytesF_one {n : Nat} (c : UInt8) : bytesF n (fun _ => c) = List.replicate n c := by
  unfold bytesF
  rw [List.map_const', List.length_range]
theorem bytesF_snoc (n : Nat) (f : Nat → UInt8) : bytesF (n + 1) f = bytesF n f ++ [f n] := by
  simp [bytesF, List.range_succ]
def rowL (s : Sc) (l : List OpT) : List UInt8 := bytesF s.wd (rowF s l)
def headL (l : List UInt8) : List UInt8 := l ++ List.replicate (7 - l.length) 32
def procOf (p : List OpT) : Int := match p with | [] => 0 | o :: _ => o.Proc
def lineL (s : Sc) (p : List OpT) : List UInt8 := headL (112 :: numL (procOf p)) ++ rowL s p ++ [10]
def linesL (s : Sc) (P : List (List OpT)) : List UInt8 := P.flatMap (lineL s)
end Go.Proofs.YtmdhcpghofadcaaGreat

namespace Go.Proofs.YtmdhcpghofadcaaGreat
set_option linter.unusedSimpArgs false
set_option linter.unusedVariables false
set_option maxRecDepth 100000
open Go Go.Ann Go.RowKit Go.WideShapes Go.Shelf
theorem st_recast {W0 w : World} {F : Nat → Prop} {L L' : List Res} {I : List Inv} (h : St W0 w F L I) (e : L = L') : St W0 w F L' I := e ▸ h
def BuL (b : Nat) (p v : Value) (bs : List UInt8) : List Res := [.blk b #[p, v] 63, .row v 5 1 bs.length (bs.map byteV)]
structure BuOk (b : Nat) (p v : Value) (bs : List UInt8) : Prop where
  ptr : p = .pointer none ∨ p = .pointer (some ⟨b, 0, none⟩)
  nil : bs = [] → v = .slice none 0 0
theorem goCC : goFunc Tryz.prog 80 = true := by kernel_rfl
theorem x72 : Builder.X72 Tryz.prog layRepeat_ren := ⟨by kernel_rfl, by kernel_rfl⟩
theorem xBuilder : Builder.Extra Tryz.prog layRepeat_ren := { x72 with
  t5 := Tryz.underlying5
  a5 := Tryz.isAgg5
  z5 := Tryz.sizeOf5
  v5 := Tryz.zeroValue5
  infoByte := by kernel_rfl
  cellsByte := by kernel_rfl
  sizeByte := by kernel_rfl
  neB5 := by decide }
section
variable {W0 w : World} {F : Nat → Prop} {L : List Res} {I : List Inv} {b : Nat} {p v : Value} {bs : List UInt8}
theorem copyCheck_ok (h : St W0 w F (BuL b p v bs ++ L) I) (ok : BuOk b p v bs) :
    Ret Tryz.prog 80 [.pointer (some ⟨b, 0, none⟩)] w fun u w' => u = .tuple #[] ∧ St W0 w' F (BuL b (.pointer (some ⟨b, 0, none⟩)) v bs ++ L) I := by
  have hb := h.blk 0 rfl
  have L240 : Lays.n240 Tryz.prog layRepeat_ren := { layRepeat with }
  rcases ok.ptr with rfl | rfl
  · refine (Any.Builder_copyCheck_fresh L240 x72 b w (hb.cell 0) (by unfold World.shape?; rw [show w.heap[b]? = _ from hb]; rfl) (hb.frozen 0)).mono ?_
    rintro e w' ⟨rfl, rfl⟩
    exact ⟨_, rfl, rfl, h.set 0 rfl 0 (.pointer (some ⟨b, 0, none⟩))⟩
  · refine (Any.Builder_copyCheck_used L240 x72 b w (hb.cell 0)).mono ?_
    rintro e w' ⟨rfl, rfl⟩
    exact ⟨_, rfl, rfl, h⟩
theorem writeS_ok (s : List UInt8) (h : St W0 w F (BuL b p v bs ++ L) I) (ok : BuOk b p v bs) (hl : bs.length + s.length ≤ 140737488355328) :
    Ret Tryz.prog 37 [.pointer (some ⟨b, 0, none⟩), .string (ofL s)] w fun u w' => ∃ p' v', BuOk b p' v' (bs ++ s) ∧ St W0 w' F (BuL b p' v' (bs ++ s) ++ L) I := by
  refine ent37 _ _ _ _ ?_
  simp (disch := first | omega | exact okFill_t rfl | exact okSize_t rfl | exact fun h => h | (simp only [World.size_alloc, World.size_drew, World.size_setCell, size_fill, bytesW]; omega)) only [go_sem, c37, c37S0, c37S1, goCC]
  refine Ret.mono (copyCheck_ok h ok) ?_
  rintro _ w2 ⟨rfl, h2⟩
  have r2 := h2.rules 0 rfl
  obtain ⟨a, c, rfl, _⟩ := own_slice (h2.row 1 rfl)
  simp (disch := first | omega | exact okFill_t rfl | exact okSize_t rfl | exact fun h => h | (simp only [World.size_alloc, World.size_drew, World.size_setCell, size_fill, bytesW]; omega)) only [go_sem, c37, c37S0, c37S1, r2]
  refine h2.appendS 1 rfl (by kernel_rfl) Tryz.underlying9 s hl ?_
  intro v3 w3 h3 c3 hn
  obtain ⟨a3, c3', rfl, _⟩ := own_slice (h3.row 1 rfl)
  have r3 := h3.rules 0 rfl
  simp (disch := first | omega | exact okFill_t rfl | exact okSize_t rfl | exact fun h => h | (simp only [World.size_alloc, World.size_drew, World.size_setCell, size_fill, bytesW]; omega)) only [go_sem, c37, c37S0, c37S1, r3]
  refine ⟨.pointer (some ⟨b, 0, none⟩), .slice a3 (bs.length + s.length) c3', ⟨.inr rfl, fun hnil => ?_⟩, st_recast (h3.set 0 rfl 1 (.slice a3 (bs.length + s.length) c3')) (by simp only [BuL, List.length_append, List.map_append]; rfl)⟩
  rw [List.append_eq_nil_iff] at hnil
  exact hn.2 ⟨ok.nil hnil.1, hnil.2⟩
theorem stringS_ok (h : St W0 w F (BuL b p v bs ++ L) I) (ok : BuOk b p v bs) (hl : bs.length ≤ 140737488355328) :
    Ret Tryz.prog 43 [.pointer (some ⟨b, 0, none⟩)] w fun u w' => u = .string (ofL bs) ∧ St W0 w' F L I := by
  refine ent43 _ _ _ ?_
  obtain ⟨a, c, rfl, hc⟩ := own_slice (h.row 1 rfl)
  simp (disch := first | omega | exact okFill_t rfl | exact okSize_t rfl | exact fun h => h | (simp only [World.size_alloc, World.size_drew, World.size_setCell, size_fill, bytesW]; omega)) only [go_sem, c43, c43S0]
  refine c43draw0 (Same (fun k => k = b) _) (Same.refl _ _) ?_
  have h2 := h.drew
  have r2 := h2.rules 0 rfl
  have l2 := h2.low 0 rfl
  generalize w.drew = w2 at h2 r2 l2 ⊢
  simp (disch := first | omega | exact okFill_t rfl | exact okSize_t rfl | exact fun h => h | (simp only [World.size_alloc, World.size_drew, World.size_setCell, size_fill, bytesW]; omega)) only [go_sem, c43, c43S0, c43D0, r2]
  have h0 : a = none ∧ c = 0 ∨ 0 < c := by
    rcases Nat.eq_zero_or_pos bs.length with hz | hz
    · have := ok.nil (List.eq_nil_of_length_eq_zero hz)
      simp only [Value.slice.injEq] at this
      exact .inl ⟨this.1, this.2.2⟩
    · exact .inr (by omega)
  have same : ∀ w', Chg (fun k => (Value.slice a bs.length c).ownBlock = some k) w2 w' → Same (fun k => k = b) w2 w' := fun w' hc k hk => by
    subst hk
    exact hc.block k l2.2 fun e => h2.ne 1 0 rfl rfl (by decide) (k := k) e rfl
  refine rawB_sliceData (e := 5) Tryz.underlying134 h0 ?_
  simp (disch := first | omega | exact okFill_t rfl | exact okSize_t rfl | exact fun h => h | (simp only [World.size_alloc, World.size_drew, World.size_setCell, size_fill, bytesW]; omega)) only [go_sem, c43, c43S0]
  refine ⟨Same.refl _ _, h2.unsafeS 1 rfl Tryz.underlying134 (by kernel_rfl) ?_⟩
  intro w3 h3 c3
  simp (disch := first | omega | exact okFill_t rfl | exact okSize_t rfl | exact fun h => h | (simp only [World.size_alloc, World.size_drew, World.size_setCell, size_fill, bytesW]; omega)) only [go_sem, c43, c43S0]
  exact ⟨same _ c3, h3.sub ((List.sublist_cons_self _ _).trans (List.sublist_cons_self _ _))⟩
end
theorem repeatL_one (c : UInt8) : ∀ n, Go.Lib.repeatL [c] n = List.replicate n c
  | 0 => rfl
  | n + 1 => by rw [Go.Lib.repeatL, repeatL_one c n]; rfl
theorem repeat_ok (c : UInt8) (n : Nat) (hn : n ≤ 1000) (w : World) : Ret Tryz.prog 81 [.string (ofL [c]), .int .i64 n] w fun u w' => u = .string (ofL (List.replicate n c)) ∧ Below w.heap.size w w' := by
  have h := Any.strings_Repeat (P := Tryz.prog) (ρ := layRepeat_ren) { layRepeat with } xBuilder ⟨#[c]⟩ n w (by omega) (by show 1 * n ≤ _; omega)
  refine h.mono ?_
  rintro e w' ⟨rfl, hb⟩
  refine ⟨_, rfl, ?_, hb⟩
  rw [show (⟨#[c]⟩ : ByteArray).data.toList = [c] from rfl, repeatL_one]
  rfl
end Go.Proofs.YtmdhcpghofadcaaGreat

namespace Go.Proofs.YtmdhcpghofadcaaGreat
set_option linter.unusedSimpArgs false
set_option linter.unusedVariables false
set_option maxRecDepth 100000
open Go Go.Ann Go.RowKit Go.WideShapes
def ofProc (x : Int) (l : List OpT) : List OpT := l.filter fun o => decide (o.Proc = x)
structure ByProc (l : List OpT) (acc : List Seg) : Prop where
  up : acc.Pairwise fun a b => a.obj < b.obj
  sorts : ∀ s ∈ acc, Sorts earI (ofProc s.obj l) s.ops
  kind : ∀ s ∈ acc, ∃ o r, s.ops = o :: r ∧ s.kind = o.Kind
  all : ∀ o ∈ l, ∃ s ∈ acc, s.obj = o.Proc
def NextP (l : List OpT) (any : Bool) (last : Int) (k : Nat) (found : Bool) (next : Int) : Prop :=
  (found = false ∧ ∀ o ∈ l.take k, any = true ∧ o.Proc ≤ last) ∨ (found = true ∧ (∃ o ∈ l.take k, o.Proc = next) ∧ (any = true → last < next) ∧ ∀ o ∈ l.take k, (any = true → last < o.Proc) → next ≤ o.Proc)
def leftP (l : List OpT) (any : Bool) (last : Int) : List OpT := l.filter fun o => !any || decide (last < o.Proc)
structure PartP (l : List OpT) (acc : List Seg) (any : Bool) (last : Int) : Prop where
  up : acc.Pairwise fun a b => a.obj < b.obj
  sorts : ∀ s ∈ acc, Sorts earI (ofProc s.obj l) s.ops
  kind : ∀ s ∈ acc, ∃ o r, s.ops = o :: r ∧ s.kind = o.Kind
  low : ∀ s ∈ acc, any = true ∧ s.obj ≤ last
  all : ∀ o ∈ l, o ∈ leftP l any last ∨ ∃ s ∈ acc, s.obj = o.Proc
theorem PartP.nil (l : List OpT) (x : Int) : PartP l [] false x := ⟨List.Pairwise.nil, (fun s h => by cases h), (fun s h => by cases h), (fun s h => by cases h), fun o h => .inl (by unfold leftP; simpa using h)⟩
theorem NextP.take {l : List OpT} {any found : Bool} {last next : Int} {k : Nat} (h : NextP l any last k found next) (hk : k < l.length) (h1 : any = true → last < l[k].Proc) (h2 : found = true → l[k].Proc < next) : NextP l any last (k + 1) true l[k].Proc := by
  refine .inr ⟨rfl, ⟨_, (mem_take_succ hk).2 (.inr rfl), rfl⟩, h1, fun o ho hlo => ?_⟩
  rcases (mem_take_succ hk).1 ho with ho | rfl
  · rcases h with ⟨_, h⟩ | ⟨hf, _, _, h⟩
    · have := h o ho; have := hlo this.1; omega
    · have := h o ho hlo; have := h2 hf; omega
  · exact Int.le_refl _
theorem NextP.skip {l : List OpT} {any found : Bool} {last next : Int} {k : Nat} (h : NextP l any last k found next) (hk : k < l.length) (h1 : (any = true ∧ l[k].Proc ≤ last) ∨ (found = true ∧ next ≤ l[k].Proc)) : NextP l any last (k + 1) found next := by
  rcases h with ⟨hf, h⟩ | ⟨hf, ⟨x, hx, hxe⟩, h2, h⟩
  · subst hf
    refine .inl ⟨rfl, fun o ho => ?_⟩
    rcases (mem_take_succ hk).1 ho with ho | rfl
    · exact h o ho
    · rcases h1 with h1 | h1
      · exact h1
      · cases h1.1
  · refine .inr ⟨hf, ⟨x, (mem_take_succ hk).2 (.inl hx), hxe⟩, h2, fun o ho hlo => ?_⟩
    rcases (mem_take_succ hk).1 ho with ho | rfl
    · exact h o ho hlo
    · rcases h1 with h1 | h1
      · have := hlo h1.1; omega
      · exact h1.2
theorem ofProc_len (x : Int) (l : List OpT) : (ofProc x l).length ≤ l.length := List.length_filter_le _ _
theorem ofProc_snoc (x : Int) {l : List OpT} {k : Nat} (hk : k < l.length) : ofProc x (l.take (k + 1)) = ofProc x (l.take k) ++ if l[k].Proc = x then [l[k]] else [] := by
  rw [List.take_succ_eq_append_getElem hk]
  unfold ofProc
  rw [List.filter_append]
  by_cases h : l[k].Proc = x
  · rw [if_pos h]; simp [h]
  · rw [if_neg h]; simp [h]
theorem PartP.step {l : List OpT} {acc : List Seg} {any : Bool} {last next : Int} {x o : OpT} {r' : List OpT} (h : PartP l acc any last) (hx : x ∈ l) (hxe : x.Proc = next) (hlo : any = true → last < next) (hmin : ∀ o ∈ l, (any = true → last < o.Proc) → next ≤ o.Proc) (hs : Sorts earI (ofProc next l) (o :: r')) :
    PartP l (acc ++ [⟨next, o.Kind, o :: r'⟩]) true next ∧ (leftP l true next).length < (leftP l any last).length := by
  refine ⟨⟨?_, fun s hm => ?_, fun s hm => ?_, fun s hm => ?_, fun y hy => ?_⟩, ?_⟩
  · rw [List.pairwise_append]
    refine ⟨h.up, List.pairwise_singleton _ _, fun a ha b hb => ?_⟩
    simp only [List.mem_singleton] at hb; subst hb
    obtain ⟨a1, a2⟩ := h.low a ha
    have := hlo a1
    simp only; omega
  · rcases List.mem_append.1 hm with hm | hm
    · exact h.sorts s hm
    · simp only [List.mem_singleton] at hm; subst hm; exact hs
  · rcases List.mem_append.1 hm with hm | hm
    · exact h.kind s hm
    · simp only [List.mem_singleton] at hm; subst hm; exact ⟨o, r', rfl, rfl⟩
  · refine ⟨rfl, ?_⟩
    rcases List.mem_append.1 hm with hm | hm
    · obtain ⟨a1, a2⟩ := h.low s hm
      have := hlo a1; omega
    · simp only [List.mem_singleton] at hm; subst hm; exact Int.le_refl _
  · rcases h.all y hy with hl | ⟨s, hm, he⟩
    · by_cases hn : y.Proc = next
      · exact .inr ⟨_, List.mem_append_right _ (List.mem_singleton_self _), hn.symm⟩
      · unfold leftP at hl ⊢
        rw [List.mem_filter] at hl ⊢
        have := hmin y hy fun ha => by have := hl.2; rw [ha] at this; simpa using this
        exact .inl ⟨hy, by simp; omega⟩
    · exact .inr ⟨s, List.mem_append_left _ hm, he⟩
  · have hsub : (leftP l true next) = (leftP l any last).filter fun o => decide (next < o.Proc) := by
      unfold leftP
      rw [List.filter_filter]
      apply List.filter_congr
      intro y hy
      cases any with
      | false => simp
      | true => have := hlo rfl; simp; omega
    rw [hsub]
    refine List.length_filter_lt_length_iff_exists.2 ⟨x, ?_, ?_⟩
    · unfold leftP
      rw [List.mem_filter]
      refine ⟨hx, ?_⟩
      cases any with
      | false => rfl
      | true => have := hlo rfl; simp; omega
    · simp; omega
theorem byProc_unique {l : List OpT} (hp : Pure l) : ∀ {a b : List Seg}, ByProc l a → ByProc l b → a = b := by
  intro a b ha hb
  have mem : ∀ {a b : List Seg}, ByProc l a → ByProc l b → ∀ s ∈ a, s ∈ b := by
    intro a b ha hb s hs
    obtain ⟨o, r, e, hk⟩ := ha.kind s hs
    have ho : o ∈ ofProc s.obj l := (ha.sorts s hs).1.mem_iff.1 (by rw [e]; exact List.mem_cons_self)
    unfold ofProc at ho
    rw [List.mem_filter, decide_eq_true_eq] at ho
    obtain ⟨t, ht, hto⟩ := hb.all o ho.1
    have heq : t.obj = s.obj := hto.trans ho.2
    have hops : t.ops = s.ops := by
      have h1 := hb.sorts t ht
      rw [heq] at h1
      refine sorts_unique (l := ofProc s.obj l) (fun x hx y hy => hp x ?_ y ?_) h1 (ha.sorts s hs)
      · exact (List.mem_filter.1 hx).1
      · exact (List.mem_filter.1 hy).1
    obtain ⟨o2, r2, e2, hk2⟩ := hb.kind t ht
    have : t = s := by
      rw [hops, e] at e2
      cases t; cases s
      simp only at heq hops hk hk2 e2 ⊢
      simp only [List.cons.injEq] at e2
      subst heq; subst hops
      rw [hk, hk2, e2.1]
    rw [← this]; exact ht
  have nd : ∀ {a : List Seg}, ByProc l a → a.Nodup := fun h => h.up.imp fun h e => by rw [e] at h; omega
  have hperm : a.Perm b := (List.perm_ext_iff_of_nodup (nd ha) (nd hb)).2 fun s => ⟨mem ha hb s, mem hb ha s⟩
  exact List.Perm.eq_of_pairwise (le := fun x y : Seg => x.obj < y.obj) (fun x y _ _ h1 h2 => by omega) ha.up hb.up hperm
end Go.Proofs.YtmdhcpghofadcaaGreat

namespace Go.Proofs.YtmdhcpghofadcaaGreat
set_option linter.unusedSimpArgs false
set_option linter.unusedVariables false
set_option maxRecDepth 100000
open Go Go.Ann Go.RowKit Go.WideShapes
def progR (w : World) (s : Seg) (c : List Value) : Prop := ∃ v, c = [v] ∧ RdS w 11 OpT.enc v s.ops ∧ (s.ops.length : Int) ≤ 9223372036854775806
theorem progR.below {w w' : World} (hb : Below w.heap.size w w') (s : Seg) (c : List Value) (h : progR w s c) : progR w' s c := by
  obtain ⟨v, rfl, h1, h2⟩ := h
  exact ⟨v, rfl, h1.below hb (by decide), h2⟩
theorem flat_ones (vs : List Value) : (vs.map fun v => [v]).flatten = vs := by
  induction vs with
  | nil => rfl
  | cons v vs ih => rw [List.map_cons, List.flatten_cons, ih]; rfl
theorem progs_rd {W0 w : World} {F : Nat → Prop} {L : List Res} {I : List Inv} {vo : Value} {acc : List Seg} {vs : List Value} (hvs : vs.length = acc.length) (h : St W0 w F (.row vo 22 1 acc.length vs :: L) I)
    (hr : ∀ (j : Nat) (s : Seg) (v : Value), acc[j]? = some s → vs[j]? = some v → RdS w 11 OpT.enc v s.ops) (hl : ∀ s ∈ acc, (s.ops.length : Int) ≤ 9223372036854775806) : RdR w 1 progR vo acc := by
  refine ⟨vs.map fun v => [v], by simp [hvs], ?_, ?_⟩
  · intro j c x hc hx
    rw [List.getElem?_map] at hc
    cases hv : vs[j]? with
    | none => rw [hv] at hc; cases hc
    | some v =>
      rw [hv] at hc
      simp only [Option.map_some, Option.some.injEq] at hc
      subst hc
      exact ⟨rfl, v, rfl, hr j x v hx hv, hl x (List.mem_of_getElem? hx)⟩
  · rw [flat_ones]
    exact Rd.of_own (h.row 0 rfl)
theorem rprograms_ok (v : Value) (l : List OpT) (w : World) (h : RdS w 11 OpT.enc v l) (hl : l.length ≤ 100) :
    Ret Tryz.prog 19 [v] w fun u w' => (∃ acc, ByProc l acc ∧ RdR w' 1 progR u acc) ∧ Below w.heap.size w w' := by
  obtain ⟨a, c, rfl, _⟩ := h.form
  refine ent19 _ _ _ ?_
  simp (disch := first | omega | exact okFill_t rfl | exact okSize_t rfl | exact fun h => h | (simp only [World.size_alloc, World.size_drew, World.size_setCell, size_fill, bytesW]; omega)) only [go_sem, c19, c19S0, c19S1, c19L0, c19S2, c19S3, c19L1, c19S4, c19S5, c19S6, c19S7, c19L2]
  refine W_loopU (fun x : Value × Int × Bool => [(3, x.1), (4, .int .i64 x.2.1), (5, .bool x.2.2)]) (fun x w' => ∃ acc vs, vs.length = acc.length ∧ acc.length + (leftP l x.2.2 x.2.1).length ≤ l.length ∧ St w w' (fun _ => False) [.row x.1 22 1 acc.length vs] (segInvs acc vs) ∧ PartP l acc x.2.2 x.2.1) (fun x => (leftP l x.2.2 x.2.1).length) (.slice none 0 0, 0, false) rfl ⟨[], [], rfl, by rw [List.length_nil, Nat.zero_add]; exact List.length_filter_le _ _, (St.start (W0 := w)).nilRow 22 1, PartP.nil l 0⟩ ?_
  rintro ⟨vo, last, any⟩ w1 ⟨acc, vs, hvs, hlen, s1, hp⟩
  simp only at hlen s1 hp
  simp (disch := first | omega | exact okFill_t rfl | exact okSize_t rfl | exact fun h => h | (simp only [World.size_alloc, World.size_drew, World.size_setCell, size_fill, bytesW]; omega)) only [go_sem, c19, c19S0, c19S1, c19L0, c19S2, c19S3, c19L1, c19S4, c19S5, c19S6, c19L2]
  refine W_loopU (fun x : Int × Bool × Nat => [(6, .int .i64 x.1), (7, .bool x.2.1), (8, .int .i64 x.2.2)]) (fun x w' => w' = w1 ∧ x.2.2 ≤ l.length ∧ NextP l any last x.2.2 x.2.1 x.1) (fun x => l.length - x.2.2) (0, false, 0) rfl ⟨rfl, Nat.zero_le _, .inl ⟨rfl, fun o h => by simp at h⟩⟩ ?_
  rintro ⟨next, found, k⟩ _ ⟨rfl, hk, hn⟩
  simp only at hk hn
  by_cases hkl : k < l.length
  · have hkl' : (k : Int) < l.length := by omega
    obtain ⟨q, rfl⟩ := h.ptr (by omega)
    have ek := h.eltB s1.bel OpT.len (by decide) hkl
    have ak := l[k].at
    simp (disch := first | omega | exact okFill_t rfl | exact okSize_t rfl | exact fun h => h | (simp only [World.size_alloc, World.size_drew, World.size_setCell, size_fill, bytesW]; omega)) only [go_sem, c19, c19S0, c19S1, c19L0, c19S2, c19S3, c19L1, c19S4, c19S5, c19S6, c19L2, hkl', ek, ak]
    have tk : (any = true → last < l[k].Proc) → (found = true → l[k].Proc < next) → k + 1 ≤ l.length ∧ NextP l any last (k + 1) true l[k].Proc := fun a b => ⟨hkl, hn.take hkl a b⟩
    have sk : ((any = true ∧ l[k].Proc ≤ last) ∨ (found = true ∧ next ≤ l[k].Proc)) → k + 1 ≤ l.length ∧ NextP l any last (k + 1) found next := fun a => ⟨hkl, hn.skip hkl a⟩
    refine ⟨fun ha => ⟨by omega, fun h1 => ⟨fun hf => ⟨by omega, fun h2 => ⟨by omega, ⟨by omega, by omega⟩, (_, _, k + 1), rfl, tk (fun _ => h1) (fun _ => h2), by simp only; omega⟩, fun h2 => ⟨⟨by omega, by omega⟩, (_, _, k + 1), rfl, sk (.inr ⟨hf, h2⟩), by simp only; omega⟩⟩, fun hf => ⟨by omega, ⟨by omega, by omega⟩, (_, _, k + 1), rfl, tk (fun _ => h1) (fun h => by rw [hf] at h; cases h), by simp only; omega⟩⟩, fun h1 => ⟨⟨by omega, by omega⟩, (_, _, k + 1), rfl, sk (.inl ⟨ha, h1⟩), by simp only; omega⟩⟩, fun ha => ⟨fun hf => ⟨by omega, fun h2 => ⟨by omega, ⟨by omega, by omega⟩, (_, _, k + 1), rfl, tk (fun h => by rw [ha] at h; cases h) (fun _ => h2), by simp only; omega⟩, fun h2 => ⟨⟨by omega, by omega⟩, (_, _, k + 1), rfl, sk (.inr ⟨hf, h2⟩), by simp only; omega⟩⟩, fun hf => ⟨by omega, ⟨by omega, by omega⟩, (_, _, k + 1), rfl, tk (fun h => by rw [ha] at h; cases h) (fun h => by rw [hf] at h; cases h), by simp only; omega⟩⟩⟩
  · have hkl' : ¬ (k : Int) < l.length := by omega
    simp (disch := first | omega | exact okFill_t rfl | exact okSize_t rfl | exact fun h => h | (simp only [World.size_alloc, World.size_drew, World.size_setCell, size_fill, bytesW]; omega)) only [go_sem, c19, c19S0, c19S1, c19L0, c19S2, c19S3, c19L1, c19S4, c19S5, c19S7, c19L2, hkl']
    have hkk : k = l.length := by omega
    subst hkk
    unfold NextP at hn
    rw [List.take_length] at hn
    refine ⟨fun hf => ⟨⟨acc, ⟨hp.up, hp.sorts, hp.kind, fun o ho => ?_⟩, progs_rd hvs s1 (fun j s v hs hv => ?_) fun s hs => ?_⟩, s1.bel⟩, fun hf => ?_⟩
    · rcases hn with ⟨_, hn⟩ | ⟨hn, _⟩
      · rcases hp.all o ho with h' | h'
        · unfold leftP at h'
          rw [List.mem_filter] at h'
          obtain ⟨a1, a2⟩ := hn o ho
          rw [a1] at h'
          have := h'.2
          simp at this
          omega
        · exact h'
      · rw [hf] at hn; cases hn
    · exact (s1.inv _ (segInvs_mem acc vs j s v hs hv)).1
    · have e1 := (hp.sorts s hs).1.length_eq
      have e2 := ofProc_len s.obj l
      omega
    · rcases hn with ⟨hn, _⟩ | ⟨_, ⟨x, hx, hxe⟩, hlo, hmin⟩
      · rw [hf] at hn; cases hn
      simp (disch := first | omega | exact okFill_t rfl | exact okSize_t rfl | exact fun h => h | (simp only [World.size_alloc, World.size_drew, World.size_setCell, size_fill, bytesW]; omega)) only [go_sem, c19, c19S0, c19S1, c19L0, c19S2, c19S3, c19L1, c19S4, c19S6, c19S7, c19L2]
      refine W_loopU (fun y : Value × Nat => [(9, y.1), (10, .int .i64 y.2)]) (fun y w' => y.2 ≤ l.length ∧ St w w' (fun _ => False) [.row y.1 56 11 (ofProc next (l.take y.2)).length ((ofProc next (l.take y.2)).flatMap OpT.enc), .row vo 22 1 acc.length vs] (segInvs acc vs)) (fun y => l.length - y.2) (.slice none 0 0, 0) rfl ⟨Nat.zero_le _, s1.nilRow 56 11⟩ ?_
      rintro ⟨v2, k⟩ w2 ⟨hk2, s2⟩
      simp only at hk2 s2
      by_cases hkl2 : k < l.length
      · have hkl2' : (k : Int) < l.length := by omega
        obtain ⟨q, rfl⟩ := h.ptr (by omega)
        have ek := h.eltB s2.bel OpT.len (by decide) hkl2
        have ck := cellsO_below s2.bel (h.at OpT.len hkl2)
        have ak := l[k].at
        have hf1 := ofProc_len next (l.take k)
        rw [List.length_take] at hf1
        have hsn := ofProc_snoc next hkl2
        simp (disch := first | omega | exact okFill_t rfl | exact okSize_t rfl | exact fun h => h | (simp only [World.size_alloc, World.size_drew, World.size_setCell, size_fill, bytesW]; omega)) only [go_sem, c19, c19S0, c19S1, c19L0, c19S2, c19S3, c19L1, c19S4, c19S6, c19S7, c19L2, hkl2', ek, ak, ck]
        refine ⟨by omega, fun he => ⟨by omega, bsW_agg ty22mkI rfl (by decide) (by decide) ?_⟩, fun he => ⟨⟨by omega, by omega⟩, (v2, k + 1), rfl, ⟨hkl2, ?_⟩, by simp only; omega⟩⟩
        · have hrd : Rd (w2.alloc (.cells l[k].enc.toArray 56)) 11 (.slice (some ⟨w2.heap.size, 0, none⟩) 1 1) 1 l[k].enc := rd_new (t := 56) (sz := 11) (n := 1) (cs := l[k].enc.toArray) rfl
          have s3 := s2.alloc' (.cells l[k].enc.toArray 56)
          generalize w2.alloc (.cells l[k].enc.toArray 56) = w3 at s3 hrd ⊢
          simp (disch := first | omega | exact okFill_t rfl | exact okSize_t rfl | exact fun h => h | (simp only [World.size_alloc, World.size_drew, World.size_setCell, size_fill, bytesW]; omega)) only [go_sem, c19, c19S0, c19S1, c19L0, c19S2, c19S3, c19L1, c19S4, c19S6, c19S7, c19L2]
          refine s3.append 0 rfl ty22mkI rfl (by decide) hrd l[k].one (by omega) (by omega) ?_
          intro v4 w4 s4 _
          simp only [List.set_cons_zero] at s4
          simp (disch := first | omega | exact okFill_t rfl | exact okSize_t rfl | exact fun h => h | (simp only [World.size_alloc, World.size_drew, World.size_setCell, size_fill, bytesW]; omega)) only [go_sem, c19, c19S0, c19S1, c19L0, c19S2, c19S3, c19L1, c19S4, c19S6, c19S7, c19L2]
          refine ⟨⟨by omega, by omega⟩, (v4, k + 1), rfl, ⟨hkl2, ?_⟩, by simp only; omega⟩
          simp only
          have e2 : (ofProc next (l.take k) ++ [l[k]]).length = (ofProc next (l.take k)).length + 1 := by simp
          have e3 : (ofProc next (l.take k) ++ [l[k]]).flatMap OpT.enc = (ofProc next (l.take k)).flatMap OpT.enc ++ l[k].enc := by rw [List.flatMap_append]; simp
          rw [hsn, if_pos he, e2, e3]
          exact s4
        · simp only
          rw [hsn, if_neg he, List.append_nil]
          exact s2
      · have hkl2' : ¬ (k : Int) < l.length := by omega
        simp (disch := first | omega | exact okFill_t rfl | exact okSize_t rfl | exact fun h => h | (simp only [World.size_alloc, World.size_drew, World.size_setCell, size_fill, bytesW]; omega)) only [go_sem, c19, c19S0, c19S1, c19L0, c19S2, c19S3, c19L1, c19S4, c19S6, c19S7, c19L2, hkl2']
        have hkk : k = l.length := by omega
        subst hkk
        rw [List.take_length] at s2
        simp (disch := first | omega | exact okFill_t rfl | exact okSize_t rfl | exact fun h => h | (simp only [World.size_alloc, World.size_drew, World.size_setCell, size_fill, bytesW]; omega)) only [go_sem, c19, c19S0, c19S1, c19L0, c19S2, c19S3, c19L1, c19S4, c19S5, c19S6, c19S7, c19L2]
        refine Ret.mono (sorted_ok _ _ _ (RdS.of_own (s2.row 0 rfl)) (by have := ofProc_len next l; omega)) ?_
        rintro v3 w3 ⟨⟨r, hs, o3⟩, b3⟩
        have s3 := (s2.sub (List.sublist_cons_self _ _)).add b3 (.row v3 56 11 r.length (r.flatMap OpT.enc)) (own_mono o3 s2.size) fun k hk => (o3.lt k hk).1
        have hrx : r ≠ [] := fun e => by
          have hm : x ∈ ofProc next l := by unfold ofProc; rw [List.mem_filter]; exact ⟨hx, by simpa using hxe⟩
          have := hs.1.length_eq
          rw [e] at this
          rw [List.eq_nil_of_length_eq_zero this.symm] at hm
          cases hm
        obtain ⟨o, r', rfl⟩ := List.exists_cons_of_ne_nil hrx
        have hro : RdS w3 11 OpT.enc v3 (o :: r') := RdS.of_own o3
        obtain ⟨p, cp, rfl, _⟩ := hro.form
        obtain ⟨p, rfl⟩ := hro.ptr (by simp)
        simp (disch := first | omega | exact okFill_t rfl | exact okSize_t rfl | exact fun h => h | (simp only [World.size_alloc, World.size_drew, World.size_setCell, size_fill, bytesW]; omega)) only [go_sem, c19, c19S0, c19S1, c19L0, c19S2, c19S3, c19L1, c19S4, c19S5, c19S6, c19S7, c19L2]
        have s4 := s3.seal (.rd 11 OpT.enc (.slice (some p) (r'.length + 1) cp) (o :: r')) hro fun k hk => slFoot_own hk
        refine bsW_ones ty36mkI rfl rfl (by decide) (by decide) (by intro u hu; rw [List.mem_singleton] at hu; subst hu; rfl) ?_
        have s5 := s4.alloc' (.cells #[.slice (some p) (r'.length + 1) cp] 22)
        have hrd : Rd (w3.alloc (.cells #[.slice (some p) (r'.length + 1) cp] 22)) 1 (.slice (some ⟨w3.heap.size, 0, none⟩) 1 1) 1 [.slice (some p) (r'.length + 1) cp] := rd_new (t := 22) (sz := 1) (n := 1) (cs := #[.slice (some p) (r'.length + 1) cp]) rfl
        simp (disch := first | omega | exact okFill_t rfl | exact okSize_t rfl | exact fun h => h | (simp only [World.size_alloc, World.size_drew, World.size_setCell, size_fill, bytesW]; omega)) only [go_sem, c19, c19S0, c19S1, c19L0, c19S2, c19S3, c19L1, c19S4, c19S5, c19S6, c19S7, c19L2]
        generalize w3.alloc (.cells #[.slice (some p) (r'.length + 1) cp] 22) = w4 at s5 hrd ⊢
        refine s5.append 0 rfl ty36mkI rfl (by decide) hrd (by intro u hu; rw [List.mem_singleton] at hu; subst hu; rfl) (by omega) (by omega) ?_
        intro v5 w5 s6 _
        simp only [List.set_cons_zero] at s6
        simp (disch := first | omega | exact okFill_t rfl | exact okSize_t rfl | exact fun h => h | (simp only [World.size_alloc, World.size_drew, World.size_setCell, size_fill, bytesW]; omega)) only [go_sem, c19, c19S0, c19S1, c19L0, c19S2, c19S3, c19L1, c19S4, c19S5, c19S6, c19S7, c19L2]
        obtain ⟨p1, p2⟩ := hp.step hx hxe hlo hmin hs
        refine ⟨(v5, next, true), rfl, ⟨acc ++ [⟨next, o.Kind, o :: r'⟩], vs ++ [.slice (some p) (r'.length + 1) cp], by simp [hvs], by simp only; rw [List.length_append, List.length_singleton]; omega, ?_, p1⟩, p2⟩
        rw [List.length_append, List.length_singleton]
        refine St.inv_sub s6 fun a ha => ?_
        rcases (segInvs_snoc acc vs _ _ hvs a).1 ha with rfl | ha
        · exact List.mem_cons_self
        · exact List.mem_cons_of_mem _ ha
end Go.Proofs.YtmdhcpghofadcaaGreat

namespace Go.Proofs.YtmdhcpghofadcaaGreat
set_option linter.unusedSimpArgs false
set_option linter.unusedVariables false
set_option maxRecDepth 100000
open Go Go.Ann Go.RowKit Go.WideShapes Go.Shelf
def intE (n : Int) : List Value := [.int .i64 n]
def intK (n : Int) : Value := .int .i64 n
def idK (v : Value) : Value := v
theorem int_one (n : Int) : ∀ u ∈ intE n, u.oneCell' = true := by intro u hu; rw [intE, List.mem_singleton] at hu; subst hu; rfl
theorem keyT_i : KeyT Tryz.prog 3 intK (.int .i64) := keyT_int Tryz.underlying3
theorem intE_map (l : List Int) : l.flatMap intE = l.map encZ := by
  induction l with
  | nil => rfl
  | cons a l ih => rw [List.flatMap_cons, ih]; rfl
theorem left_in {ν : Type} {evK : ν → Value} {d : List (Int × ν × Nat)} {D : List (Int × ν × Nat)} {e : MapEntry} (h : e ∈ (leftOf (d.map (entG intK evK)).toArray (D.map fun x => x.2.2).toArray).toList) : ∃ x ∈ d, e = entG intK evK x ∧ x.2.2 ∉ D.map fun x => x.2.2 := by
  unfold leftOf at h
  rw [Array.toList_filter, List.mem_filter] at h
  obtain ⟨h1, h2⟩ := h
  obtain ⟨x, hx, rfl⟩ := List.mem_map.1 h1
  refine ⟨x, hx, rfl, ?_⟩
  simpa [entG] using h2
theorem left_none {ν : Type} {evK : ν → Value} {d : List (Int × ν × Nat)} {D : List (Int × ν × Nat)} (h : (leftOf (d.map (entG intK evK)).toArray (D.map fun x => x.2.2).toArray).size = 0) : ∀ x ∈ d, x.2.2 ∈ D.map fun x => x.2.2 := by
  intro x hx
  unfold leftOf at h
  rw [← Array.length_toList, Array.toList_filter, List.length_eq_zero_iff, List.filter_eq_nil_iff] at h
  have := h (entG intK evK x) (List.mem_map_of_mem hx)
  simpa [entG] using this
theorem all_perm {ν : Type} {d D : List (Int × ν × Nat)} (hb : (d.map fun x => x.2.2).Nodup) (hD : (D.map fun x => x.2.2).Nodup) (hs : ∀ x ∈ D, x ∈ d) (ha : ∀ x ∈ d, x.2.2 ∈ D.map fun x => x.2.2) : D.Perm d := by
  have inj : ∀ x ∈ d, ∀ y ∈ d, x.2.2 = y.2.2 → x = y := fun x hx y hy e => by
    obtain ⟨i, hi, rfl⟩ := List.mem_iff_getElem.1 hx
    obtain ⟨j, hj, rfl⟩ := List.mem_iff_getElem.1 hy
    have hp := List.pairwise_iff_getElem.1 hb
    rcases Nat.lt_trichotomy i j with h | h | h
    · exact absurd (by rw [List.getElem_map, List.getElem_map]; exact e) (hp i j (by simpa using hi) (by simpa using hj) h)
    · subst h; rfl
    · exact absurd (by rw [List.getElem_map, List.getElem_map]; exact e.symm) (hp j i (by simpa using hj) (by simpa using hi) h)
  have nd : ∀ l : List (Int × ν × Nat), (l.map fun x => x.2.2).Nodup → l.Nodup := fun l h => by
    unfold List.Nodup at h ⊢
    rw [List.pairwise_map] at h
    exact h.imp fun h e => h (by rw [e])
  refine (List.perm_ext_iff_of_nodup (nd D hD) (nd d hb)).2 fun x => ⟨hs x, fun hx => ?_⟩
  obtain ⟨y, hy, e⟩ := List.mem_map.1 (ha x hx)
  have := inj y (hs y hy) x hx e
  rw [← this]; exact hy
theorem nat_le {D d : List Nat} (nd : D.Nodup) (hs : ∀ x ∈ D, x ∈ d) : D.length ≤ d.length := by
  induction D generalizing d with
  | nil => exact Nat.zero_le _
  | cons a D ih =>
    rw [List.nodup_cons] at nd
    have h1 : ∀ x ∈ D, x ∈ d.erase a := fun x hx => (List.mem_erase_of_ne (fun e => nd.1 (by rw [← e]; exact hx))).2 (hs x (List.mem_cons_of_mem _ hx))
    have := ih nd.2 h1
    have ha := hs a (List.mem_cons_self ..)
    rw [List.length_erase_of_mem ha] at this
    have := List.length_pos_of_mem ha
    rw [List.length_cons]; omega
theorem nodup_le {ν : Type} {d D : List (Int × ν × Nat)} (hD : (D.map fun x => x.2.2).Nodup) (hs : ∀ x ∈ D, x ∈ d) : D.length ≤ d.length := by
  have := nat_le hD (d := d.map fun x => x.2.2) fun x hx => by
    obtain ⟨y, hy, rfl⟩ := List.mem_map.1 hx
    exact List.mem_map_of_mem (f := fun x : Int × ν × Nat => x.2.2) (hs y hy)
  simpa using this
theorem last_get {α : Type} (X : List α) (r : α) : (X ++ [r])[X.length]? = some r := by simp
theorem last_set {α : Type} (X : List α) (r r' : α) : (X ++ [r]).set X.length r' = X ++ [r'] := by simp
theorem not_in {ν : Type} {d D : List (Int × ν × Nat)} {x : Int × ν × Nat} (hk : (d.map Prod.fst).Nodup) (hs : ∀ y ∈ D, y ∈ d) (hx : x ∈ d) (hn : x.2.2 ∉ D.map fun x => x.2.2) : x.1 ∉ D.map Prod.fst := by
  intro h
  obtain ⟨y, hy, e⟩ := List.mem_map.1 h
  obtain ⟨i, hi, ei⟩ := List.mem_iff_getElem.1 (hs y hy)
  obtain ⟨j, hj, ej⟩ := List.mem_iff_getElem.1 hx
  have hp := List.pairwise_iff_getElem.1 hk
  have hij : i = j := by
    rcases Nat.lt_trichotomy i j with h | h | h
    · exact absurd (by rw [List.getElem_map, List.getElem_map, ei, ej]; exact e) (hp i j (by simpa using hi) (by simpa using hj) h)
    · exact h
    · exact absurd (by rw [List.getElem_map, List.getElem_map, ei, ej]; exact e.symm) (hp j i (by simpa using hj) (by simpa using hi) h)
  subst hij
  have : y = x := ei.symm.trans ej
  subst this
  exact hn (List.mem_map_of_mem hy)
section
variable {W0 w : World} {F : Nat → Prop} {L : List Res} {I : List Inv}
theorem sortI_ok {v : Value} {ks : List Int} (h : St W0 w F (.row v 3 1 ks.length (ks.flatMap intE) :: L) I) (hl : ks.length ≤ 100000) :
    Ret Tryz.prog 112 [v] w fun u w' => u = .tuple #[] ∧ ∃ ts : List Int, (ts.Perm ks ∧ ts.Pairwise (· ≤ ·)) ∧ St W0 w' F (.row v 3 1 ks.length (ts.flatMap intE) :: L) I := by
  have hr := h.row 0 rfl
  obtain ⟨hlen, ⟨rfl, h0⟩ | ⟨g', cap, cur, rfl, hB, hb, hc, hm, hs, hx⟩⟩ := id hr
  · have hn : ks.length = 0 := h0
    refine (Any.slices_Sort_int_none laySortI none 0 w).mono ?_
    rintro e w' ⟨rfl, rfl⟩
    exact ⟨_, rfl, rfl, ks, ⟨List.Perm.refl _, by rw [List.eq_nil_of_length_eq_zero hn]; exact List.Pairwise.nil⟩, h⟩
  · have hx' : cur.toList.take ks.length = ks.map encZ := by rw [← intE_map, ← hx, Nat.mul_one]
    have hb' : w.heap[g']? = some (.cells cur 3 (0, 0)) := hb
    refine (Any.slices_Sort_int laySortI g' 0 cap ks w (holds_of_block_i hb' hx') (Array.getElem?_eq_some_iff.1 hb).1 (by omega)).mono ?_
    rintro e w' ⟨rfl, n, os, rfl⟩
    have hml : (ks.mergeSort fun x y => decide (x ≤ y)).length = ks.length := List.length_mergeSort _
    refine ⟨_, rfl, rfl, ks.mergeSort fun x y => decide (x ≤ y), ⟨List.mergeSort_perm _ _, (List.pairwise_mergeSort (le := fun x y : Int => decide (x ≤ y)) (fun a b c h1 h2 => by simp at h1 h2 ⊢; omega) (fun a b => by simp; omega) ks).imp fun h => by simpa using h⟩, ?_⟩
    have ho := ownsRow_sorted_i (n := n) (os := os) hml hB hb' hc hm hs
    rw [← intE_map] at ho
    exact h.grow 0 rfl (grownBy_sorted_i _) ho fun k hk => .inl hk
end
section
variable {W0 w : World} {F : Nat → Prop} {L : List Res} {I : List Inv} {d : List (Int × Value × Nat)} {c bx mb : Nat}
theorem keys1_ok (fv : Value) (J : List Res → List Int → World → Prop) (w : World) (hJ : ∀ R pre w', J R pre w' → w'.cell? ⟨bx, 0, none⟩ = some (.map (some mb)) ∧ w'.heap[mb]? = some (mapG intK idK d c) ∧ ∃ X, St W0 w' F (X ++ R) I)
    (hJ2 : ∀ R R' pre w' w'', J R pre w' → (∀ X, St W0 w' F (X ++ R) I → St W0 w'' F (X ++ R') I) → J R' pre w'')
    (hf : ∀ R pre x w', J R pre w' → (x ∉ pre ∧ x ∈ d.map Prod.fst ∧ pre.length < d.length) → callW Tryz.prog fv [.int .i64 x] w' fun v w'' => v = .bool true ∧ J R (pre ++ [x]) w'')
    (hk : (d.map Prod.fst).Nodup) (hb : (d.map fun x => x.2.2).Nodup) (hc : ∀ x ∈ d, x.2.2 < c) (h0 : J [] [] w) :
    Ret Tryz.prog 113 [fv, .pointer (some ⟨bx, 0, none⟩)] w fun _ w' => ∃ xs, xs.Perm (d.map Prod.fst) ∧ J [] xs w' := by
  refine ent113 _ _ _ _ ?_
  obtain ⟨k1, k2, _⟩ := hJ _ _ _ h0
  simp (disch := first | omega | exact okFill_t rfl | exact okSize_t rfl | exact fun h => h | (simp only [World.size_alloc, World.size_drew, World.size_setCell, size_fill, bytesW]; omega)) only [go_sem, c113, c113S0, c113S1, k1]
  refine rgG Tryz.underlying117 k2 ?_
  have j1 : J [.obj w.heap.size (.mapIter (some mb) c #[] c)] [] (w.alloc (.mapIter (some mb) c #[] c)) := hJ2 _ _ _ _ _ h0 fun X hX => by
    have := hX.lay (.mapIter (some mb) c #[] c)
    rw [List.append_nil] at this
    exact this.perm (List.perm_append_singleton _ _)
  generalize w.heap.size = q at j1 ⊢
  generalize w.alloc (.mapIter (some mb) c #[] c) = w1 at j1 ⊢
  simp (disch := first | omega | exact okFill_t rfl | exact okSize_t rfl | exact fun h => h | (simp only [World.size_alloc, World.size_drew, World.size_setCell, size_fill, bytesW]; omega)) only [go_sem, c113, c113S0, c113S1]
  refine W_loopU (fun D : List (Int × Value × Nat) => []) (fun D w' => (∀ x ∈ D, x ∈ d) ∧ (D.map fun x => x.2.2).Nodup ∧ J [.obj q (.mapIter (some mb) c (D.map fun x => x.2.2).toArray c)] (D.map Prod.fst) w') (fun D => d.length - D.length) [] rfl ⟨fun _ h => (by cases h), List.Pairwise.nil, j1⟩ ?_
  clear j1 k1 k2 h0
  rintro D w2 ⟨hD1, hD2, j2⟩
  have hle := nodup_le hD2 hD1
  obtain ⟨k1, k2, X, sX⟩ := hJ _ _ _ j2
  simp (disch := first | omega | exact okFill_t rfl | exact okSize_t rfl | exact fun h => h | (simp only [World.size_alloc, World.size_drew, World.size_setCell, size_fill, bytesW]; omega)) only [go_sem, c113, c113S0, c113S1, c113L0, c113L0]
  refine nxG (sX.obj X.length (last_get X _)) k2 (fun e he => ?_) (Nat.le_refl _) (fun h0' => ?_) (fun e he w3 hw3 => ?_)
  · obtain ⟨x, hx, rfl⟩ := List.mem_map.1 he
    exact hc x hx
  · simp (disch := first | omega | exact okFill_t rfl | exact okSize_t rfl | exact fun h => h | (simp only [World.size_alloc, World.size_drew, World.size_setCell, size_fill, bytesW]; omega)) only [go_sem, c113, c113S0, c113S1, c113L0]
    have hperm := all_perm hb hD2 hD1 (left_none h0')
    refine ⟨D.map Prod.fst, hperm.map _, hJ2 _ _ _ _ _ j2 fun Y hY => ?_⟩
    rw [List.append_nil]
    exact hY.sub (List.sublist_append_left _ _)
  · obtain ⟨x, hx, rfl, hxn⟩ := left_in he
    have j3 : J [.obj q (.mapIter (some mb) c ((D.map fun x => x.2.2).toArray.push x.2.2) c)] (D.map Prod.fst) (w3.putObj q (.mapIter (some mb) c ((D.map fun x => x.2.2).toArray.push x.2.2) c)) := hJ2 _ _ _ _ _ j2 fun Y hY => by
      have h3 : St W0 w3 F (Y ++ [.obj q (.mapIter (some mb) c (D.map fun x => x.2.2).toArray c)]) I := by
        rcases hw3 with rfl | rfl
        · exact hY
        · exact hY.drew
      have := h3.putObj Y.length (last_get Y _) (.mapIter (some mb) c ((D.map fun x => x.2.2).toArray.push x.2.2) c)
      rwa [last_set] at this
    have hbn : ((d.map (entG intK idK)).toArray.toList.map (·.born)).Nodup := by
      rw [List.toList_toArray, List.map_map]
      exact hb
    simp (disch := first | omega | exact okFill_t rfl | exact okSize_t rfl | exact fun h => h | (simp only [World.size_alloc, World.size_drew, World.size_setCell, size_fill, bytesW]; omega)) only [go_sem, c113, c113S0, c113S1, c113L0]
    have e1 : (entG intK idK x).born = x.2.2 := rfl
    rw [e1]
    obtain ⟨_, k4, Z, sZ⟩ := hJ _ _ _ j3
    refine enG (sZ.obj Z.length (last_get Z _)) k4 (by rw [List.toList_toArray]; exact List.mem_map_of_mem hx) hbn ?_
    simp (disch := first | omega | exact okFill_t rfl | exact okSize_t rfl | exact fun h => h | (simp only [World.size_alloc, World.size_drew, World.size_setCell, size_fill, bytesW]; omega)) only [go_sem, c113, c113S0, c113S1, c113L0, entG, intK, idK]
    have hnk := not_in hk hD1 hx hxn
    have hn2 : ((x :: D).map fun x => x.2.2).Nodup := by rw [List.map_cons, List.nodup_cons]; exact ⟨hxn, hD2⟩
    have hDl := nodup_le hn2 fun y hy => by
      rcases List.mem_cons.1 hy with rfl | hy
      · exact hx
      · exact hD1 y hy
    rw [List.length_cons] at hDl
    refine callW_mono (hf _ _ x.1 _ j3 ⟨hnk, List.mem_map_of_mem hx, by rw [List.length_map]; omega⟩) ?_
    rintro _ w5 ⟨rfl, j5⟩
    simp (disch := first | omega | exact okFill_t rfl | exact okSize_t rfl | exact fun h => h | (simp only [World.size_alloc, World.size_drew, World.size_setCell, size_fill, bytesW]; omega)) only [go_sem, c113, c113S0, c113S1, c113L0]
    refine ⟨D ++ [x], ⟨fun y hy => ?_, ?_, ?_⟩, by rw [List.length_append, List.length_singleton]; omega⟩
    · rcases List.mem_append.1 hy with hy | hy
      · exact hD1 y hy
      · rw [List.mem_singleton] at hy; subst hy; exact hx
    · rw [List.map_append, List.nodup_append]
      refine ⟨hD2, List.pairwise_singleton _ _, fun a ha e he => ?_⟩
      rw [List.map_cons, List.map_nil, List.mem_singleton] at he
      subst he
      exact fun h => hxn (h ▸ ha)
    · have e2 : ((D ++ [x]).map fun x => x.2.2).toArray = (D.map fun x => x.2.2).toArray.push x.2.2 := by simp
      have e3 : (D ++ [x]).map Prod.fst = D.map Prod.fst ++ [x.1] := by simp
      rw [e2, e3]
      exact j5
theorem keys_ok (w : World) : Ret Tryz.prog 70 [.map (some mb)] w fun v w' => v = .func (.func 113) #[] #[.pointer (some ⟨w.heap.size, 0, none⟩)] ∧ w' = w.alloc (.cells #[.map (some mb)] 117) := by
  refine ent70 _ _ _ ?_
  simp (disch := first | omega | exact okFill_t rfl | exact okSize_t rfl | exact fun h => h | (simp only [World.size_alloc, World.size_drew, World.size_setCell, size_fill, bytesW]; omega)) only [go_sem, c70]
theorem appendKeys_ok (h : St W0 w F (.blk bx #[.map (some mb)] 117 :: .obj mb (mapG intK idK d c) :: L) I) (hk : (d.map Prod.fst).Nodup) (hb : (d.map fun x => x.2.2).Nodup) (hc : ∀ x ∈ d, x.2.2 < c) (hd : d.length ≤ 100000) :
    Ret Tryz.prog 142 [.slice none 0 0, .func (.func 113) #[] #[.pointer (some ⟨bx, 0, none⟩)]] w fun u w' => ∃ ks : List Int, ks.Perm (d.map Prod.fst) ∧ St W0 w' F (.row u 3 1 ks.length (ks.flatMap intE) :: .blk bx #[.map (some mb)] 117 :: .obj mb (mapG intK idK d c) :: L) I := by
  refine ent142 _ _ _ _ ?_
  simp (disch := first | omega | exact okFill_t rfl | exact okSize_t rfl | exact fun h => h | (simp only [World.size_alloc, World.size_drew, World.size_setCell, size_fill, bytesW]; omega)) only [go_sem, c142, c142S0]
  have s1 := (h.nilRow 3 1).box #[.slice none 0 0] 31
  generalize w.heap.size = bs at s1 ⊢
  generalize w.alloc (.cells #[.slice none 0 0] 31) = w1 at s1 ⊢
  refine RangeW_any (β := Value) (fun x : Int => [.int .i64 x]) (fun pre x => x ∉ pre ∧ x ∈ d.map Prod.fst ∧ pre.length < d.length) (fun xs => xs.Perm (d.map Prod.fst)) (fun u pre => .blk bs #[u] 31 :: .row u 3 1 pre.length (pre.flatMap intE) :: .blk bx #[.map (some mb)] 117 :: .obj mb (mapG intK idK d c) :: L) (.slice none 0 0) rfl (by kernel_rfl) s1 rfl (fun _ => rfl) ?_ ?_ ?_
  · intro fv J w2 hJ1 hJ2 hf h0
    refine keys1_ok (mb := mb) fv J w2 (fun R pre w' j => ?_) hJ2 (fun R pre x w' j e => hf R pre x w' j e) hk hb hc h0
    obtain ⟨l, D, o, u, hX⟩ := hJ1 R pre w' j
    exact ⟨(hX.blk 4 rfl).cell 0, hX.obj 5 rfl, .obj l o :: .obj D (.deferred (some [])) :: (.blk bs #[u] 31 :: .row u 3 1 pre.length (pre.flatMap intE) :: .blk bx #[.map (some mb)] 117 :: .obj mb (mapG intK idK d c) :: L), hX⟩
  · intro R u pre x w' l D o o2 hx h1
    obtain ⟨e1, e2, e3⟩ := hx
    simp (disch := first | omega | exact okFill_t rfl | exact okSize_t rfl | exact fun h => h | (simp only [World.size_alloc, World.size_drew, World.size_setCell, size_fill, bytesW]; omega)) only [go_sem, c142, c142A0, c142B0, c142S0, c142A0, c142B0]
    refine ⟨_, h1, fun w2 h2 => ?_⟩
    obtain ⟨ao, co, rfl, _⟩ := own_slice (h2.row 3 rfl)
    have r2 := h2.rules 2 rfl
    simp (disch := first | omega | exact okFill_t rfl | exact okSize_t rfl | exact fun h => h | (simp only [World.size_alloc, World.size_drew, World.size_setCell, size_fill, bytesW]; omega)) only [go_sem, c142, c142A0, c142B0, c142S0, r2]
    refine bsW_ones ty31mkI rfl rfl (Nat.le_of_ble_eq_true rfl) (by simp [intE]) (int_one x) ?_
    have hx : Rd (w2.alloc (.cells (intE x).toArray 3)) 1 (.slice (some ⟨w2.heap.size, 0, none⟩) 1 1) 1 (intE x) := rd_new (n := 1) (cs := (intE x).toArray) rfl
    simp (disch := first | omega | exact okFill_t rfl | exact okSize_t rfl | exact fun h => h | (simp only [World.size_alloc, World.size_drew, World.size_setCell, size_fill, bytesW]; omega)) only [go_sem, c142, c142A0, c142B0, c142S0]
    refine (h2.alloc' (.cells (intE x).toArray 3)).append 3 rfl ty31mkI rfl (by decide) hx (int_one x) (by omega) (by omega) ?_
    intro u' w4 s4 _
    obtain ⟨ao', co', rfl, _⟩ := own_slice (s4.row 3 rfl)
    have r4 := s4.rules 2 rfl
    have s5 := s4.set 2 rfl 0 (.slice ao' (pre.length + 1) co')
    simp (disch := first | omega | exact okFill_t rfl | exact okSize_t rfl | exact fun h => h | (simp only [World.size_alloc, World.size_drew, World.size_setCell, size_fill, bytesW]; omega)) only [go_sem, c142, c142A0, c142B0, c142S0, r4]
    refine ⟨.slice ao' (pre.length + 1) co', st_recast s5 ?_⟩
    rw [List.length_append, List.flatMap_append, List.flatMap_singleton]
    rfl
  · intro xs u D w' hG h1
    obtain ⟨ao, co, rfl, _⟩ := own_slice (h1.row 2 rfl)
    have r1 := h1.rules 1 rfl
    have hD := h1.obj 0 rfl
    simp (disch := first | omega | exact okFill_t rfl | exact okSize_t rfl | exact fun h => h | (simp only [World.size_alloc, World.size_drew, World.size_setCell, size_fill, bytesW]; omega)) only [go_sem, c142, c142A0, c142B0, c142S0, r1, hD]
    refine ⟨xs, hG, ?_⟩
    exact ((h1.putObj 0 rfl (.deferred none)).sub (L' := .row (.slice ao xs.length co) 3 1 xs.length (xs.flatMap intE) :: .blk bx #[.map (some mb)] 117 :: .obj mb (mapG intK idK d c) :: L) (by simp))
theorem collect_ok {d : List (Int × Value × Nat)} {c bx : Nat} (h : St W0 w F (.blk bx #[.map (some mb)] 117 :: .obj mb (mapG intK idK d c) :: L) I) (hk : (d.map Prod.fst).Nodup) (hb : (d.map fun x => x.2.2).Nodup) (hc : ∀ x ∈ d, x.2.2 < c) (hd : d.length ≤ 100000) :
    Ret Tryz.prog 111 [.func (.func 113) #[] #[.pointer (some ⟨bx, 0, none⟩)]] w fun u w' => ∃ ks : List Int, ks.Perm (d.map Prod.fst) ∧ St W0 w' F (.row u 3 1 ks.length (ks.flatMap intE) :: .blk bx #[.map (some mb)] 117 :: .obj mb (mapG intK idK d c) :: L) I := by
  refine ent111 _ _ _ ?_
  simp (disch := first | omega | exact okFill_t rfl | exact okSize_t rfl | exact fun h => h | (simp only [World.size_alloc, World.size_drew, World.size_setCell, size_fill, bytesW]; omega)) only [go_sem, c111, c111S0]
  refine Ret.mono (appendKeys_ok h hk hb hc hd) ?_
  rintro u w2 ⟨ks, hp, s2⟩
  obtain ⟨ao, co, rfl, _⟩ := own_slice (s2.row 0 rfl)
  simp (disch := first | omega | exact okFill_t rfl | exact okSize_t rfl | exact fun h => h | (simp only [World.size_alloc, World.size_drew, World.size_setCell, size_fill, bytesW]; omega)) only [go_sem, c111, c111S0]
  exact ⟨ks, hp, s2⟩
theorem sortedK_ok {d : List (Int × Value × Nat)} {c bx : Nat} (h : St W0 w F (.blk bx #[.map (some mb)] 117 :: .obj mb (mapG intK idK d c) :: L) I) (hk : (d.map Prod.fst).Nodup) (hb : (d.map fun x => x.2.2).Nodup) (hc : ∀ x ∈ d, x.2.2 < c) (hd : d.length ≤ 100000) :
    Ret Tryz.prog 69 [.func (.func 113) #[] #[.pointer (some ⟨bx, 0, none⟩)]] w fun u w' => ∃ ts : List Int, ts.Perm (d.map Prod.fst) ∧ ts.Pairwise (· ≤ ·) ∧ St W0 w' F (.row u 3 1 ts.length (ts.flatMap intE) :: .blk bx #[.map (some mb)] 117 :: .obj mb (mapG intK idK d c) :: L) I := by
  refine ent69 _ _ _ ?_
  simp (disch := first | omega | exact okFill_t rfl | exact okSize_t rfl | exact fun h => h | (simp only [World.size_alloc, World.size_drew, World.size_setCell, size_fill, bytesW]; omega)) only [go_sem, c69, c69S0, c69S1]
  refine Ret.mono (collect_ok h hk hb hc hd) ?_
  rintro u w2 ⟨ks, hp, s2⟩
  have hkl : ks.length = d.length := by rw [hp.length_eq, List.length_map]
  obtain ⟨ao, co, rfl, _⟩ := own_slice (s2.row 0 rfl)
  have gS : goFunc Tryz.prog 112 = true := by kernel_rfl
  simp (disch := first | omega | exact okFill_t rfl | exact okSize_t rfl | exact fun h => h | (simp only [World.size_alloc, World.size_drew, World.size_setCell, size_fill, bytesW]; omega)) only [go_sem, c69, c69S0, c69S1, gS]
  refine Ret.mono (sortI_ok s2 (by omega)) ?_
  rintro _ w3 ⟨rfl, ts, ⟨h1, h2⟩, s3⟩
  simp (disch := first | omega | exact okFill_t rfl | exact okSize_t rfl | exact fun h => h | (simp only [World.size_alloc, World.size_drew, World.size_setCell, size_fill, bytesW]; omega)) only [go_sem, c69, c69S0, c69S1]
  exact ⟨ts, h1.trans hp, h2, by rw [h1.length_eq]; exact s3⟩
end
end Go.Proofs.YtmdhcpghofadcaaGreat

namespace Go.Proofs.YtmdhcpghofadcaaGreat
set_option linter.unusedSimpArgs false
set_option linter.unusedVariables false
set_option maxRecDepth 100000
open Go Go.Ann Go.RowKit Go.WideShapes Go.Shelf
def rowO (t : List OpT) (p : Int) (v : Value) : Res := .row v 56 11 (ofProc p t).length ((ofProc p t).flatMap OpT.enc)
def rowsO (t : List OpT) (d : List (Int × Value × Nat)) : List Res := d.map fun x => rowO t x.1 x.2.1
theorem ofProc_one (x : Int) (t : List OpT) (o : OpT) : ofProc x (t ++ [o]) = ofProc x t ++ if o.Proc = x then [o] else [] := by
  unfold ofProc
  rw [List.filter_append]
  by_cases h : o.Proc = x <;> simp [h]
theorem rowO_other {t : List OpT} {o : OpT} {p : Int} (h : o.Proc ≠ p) (v : Value) : rowO (t ++ [o]) p v = rowO t p v := by
  unfold rowO
  rw [ofProc_one, if_neg h, List.append_nil]
theorem rows_other {t : List OpT} {o : OpT} {d : List (Int × Value × Nat)} (h : ∀ x ∈ d, o.Proc ≠ x.1) : rowsO (t ++ [o]) d = rowsO t d := by
  unfold rowsO
  exact List.map_congr_left fun x hx => rowO_other (h x hx) _
theorem rows_some {t : List OpT} {o : OpT} {v : Value} : ∀ {d : List (Int × Value × Nat)}, (d.map Prod.fst).Nodup → getM o.Proc d = some v → ∃ R, (rowsO t d).Perm (rowO t o.Proc v :: R) ∧ ∀ v' c, (rowO (t ++ [o]) o.Proc v' :: R).Perm (rowsO (t ++ [o]) (setM o.Proc v' c d))
  | [], _, h => by cases h
  | x :: d, hn, h => by
    rw [List.map_cons, List.nodup_cons] at hn
    simp only [getM] at h
    by_cases e : o.Proc = x.1
    · rw [if_pos e] at h
      simp only [Option.some.injEq] at h
      refine ⟨rowsO t d, by unfold rowsO; rw [List.map_cons, e, h], fun v' c => ?_⟩
      rw [show setM o.Proc v' c (x :: d) = (x.1, v', x.2.2) :: d from if_pos e]
      have : rowsO (t ++ [o]) d = rowsO t d := rows_other fun y hy e2 => hn.1 (by rw [← e, e2]; exact List.mem_map_of_mem hy)
      show (_ :: _).Perm (rowO (t ++ [o]) x.1 v' :: rowsO (t ++ [o]) d)
      rw [this, e]
    · rw [if_neg e] at h
      obtain ⟨R, h1, h2⟩ := rows_some hn.2 h
      refine ⟨rowO t x.1 x.2.1 :: R, (h1.cons _).trans (List.Perm.swap ..), fun v' c => ?_⟩
      rw [show setM o.Proc v' c (x :: d) = x :: setM o.Proc v' c d from if_neg e]
      show (_ :: _).Perm (rowO (t ++ [o]) x.1 x.2.1 :: rowsO (t ++ [o]) (setM o.Proc v' c d))
      rw [rowO_other e]
      exact (List.Perm.swap ..).trans ((h2 v' c).cons _)
theorem getM_none {p : Int} : ∀ {d : List (Int × Value × Nat)}, getM p d = none → ∀ x ∈ d, p ≠ x.1
  | [], _, _, h => by cases h
  | y :: d, h, x, hx => by
    simp only [getM] at h
    by_cases e : p = y.1
    · rw [if_pos e] at h; cases h
    · rw [if_neg e] at h
      rcases List.mem_cons.1 hx with rfl | hx
      · exact e
      · exact getM_none h x hx
theorem setM_none {p : Int} {v : Value} {c : Nat} : ∀ {d : List (Int × Value × Nat)}, getM p d = none → setM p v c d = d ++ [(p, v, c)]
  | [], _ => rfl
  | y :: d, h => by
    simp only [getM] at h
    by_cases e : p = y.1
    · rw [if_pos e] at h; cases h
    · rw [if_neg e] at h
      rw [show setM p v c (y :: d) = y :: setM p v c d from if_neg e, setM_none h]; rfl
theorem rows_none {t : List OpT} {o : OpT} {d : List (Int × Value × Nat)} (h : getM o.Proc d = none) (v' : Value) (c : Nat) : (rowO (t ++ [o]) o.Proc v' :: rowsO t d).Perm (rowsO (t ++ [o]) (setM o.Proc v' c d)) := by
  rw [setM_none h]
  unfold rowsO
  rw [List.map_append]
  have := rows_other (t := t) (o := o) (d := d) (getM_none h)
  unfold rowsO at this
  rw [this]
  exact (List.perm_append_singleton _ _).symm
theorem getM_key {p : Int} {v : Value} : ∀ {d : List (Int × Value × Nat)}, getM p d = some v → ∃ x ∈ d, x.1 = p ∧ x.2.1 = v
  | [], h => by cases h
  | y :: d, h => by
    simp only [getM] at h
    by_cases e : p = y.1
    · rw [if_pos e] at h
      exact ⟨y, List.mem_cons_self, e.symm, Option.some.inj h⟩
    · rw [if_neg e] at h
      obtain ⟨x, hx, h1⟩ := getM_key h
      exact ⟨x, List.mem_cons_of_mem _ hx, h1⟩
theorem getM_mem {d : List (Int × Value × Nat)} (hn : (d.map Prod.fst).Nodup) {x : Int × Value × Nat} (hx : x ∈ d) : getM x.1 d = some x.2.1 := by
  induction d with
  | nil => cases hx
  | cons y d ih =>
    rw [List.map_cons, List.nodup_cons] at hn
    simp only [getM]
    rcases List.mem_cons.1 hx with rfl | hx
    · rw [if_pos rfl]
    · rw [if_neg fun e => hn.1 (by rw [← e]; exact List.mem_map_of_mem hx), ih hn.2 hx]
structure ByM (t : List OpT) (d : List (Int × Value × Nat)) (c : Nat) : Prop where
  nd : (d.map Prod.fst).Nodup
  bn : (d.map fun x => x.2.2).Nodup
  lt : ∀ x ∈ d, x.2.2 < c
  mem : ∀ p, p ∈ d.map Prod.fst ↔ ∃ o ∈ t, o.Proc = p
  few : d.length ≤ t.length
theorem setM_keys {p : Int} {v v0 : Value} {c : Nat} : ∀ {d : List (Int × Value × Nat)}, getM p d = some v0 → (setM p v c d).map Prod.fst = d.map Prod.fst ∧ (setM p v c d).map (fun x => x.2.2) = d.map fun x => x.2.2
  | [], h => by cases h
  | y :: d, h => by
    simp only [getM] at h
    by_cases e : p = y.1
    · rw [show setM p v c (y :: d) = (y.1, v, y.2.2) :: d from if_pos e]; exact ⟨rfl, rfl⟩
    · rw [if_neg e] at h
      obtain ⟨h1, h2⟩ := setM_keys (v := v) (c := c) h
      rw [show setM p v c (y :: d) = y :: setM p v c d from if_neg e]
      simp only [List.map_cons, h1, h2, and_self]
theorem ByM.step {t : List OpT} {d : List (Int × Value × Nat)} {c : Nat} (h : ByM t d c) (o : OpT) (v : Value) : ByM (t ++ [o]) (setM o.Proc v c d) (if (getM o.Proc d).isSome then c else c + 1) := by
  cases hg : getM o.Proc d with
  | some v0 =>
    obtain ⟨h1, h2⟩ := setM_keys (v := v) (c := c) hg
    simp only [Option.isSome_some, if_true]
    obtain ⟨y, hy, hy1, _⟩ := getM_key hg
    refine ⟨by rw [h1]; exact h.nd, by rw [h2]; exact h.bn, fun x hx => ?_, fun p => ?_, ?_⟩
    · have : x.2.2 ∈ (setM o.Proc v c d).map fun x => x.2.2 := List.mem_map_of_mem (f := fun x : Int × Value × Nat => x.2.2) hx
      rw [h2] at this
      obtain ⟨z, hz, e⟩ := List.mem_map.1 this
      rw [← e]; exact h.lt z hz
    · rw [h1, h.mem]
      constructor
      · rintro ⟨a, ha, e⟩; exact ⟨a, List.mem_append_left _ ha, e⟩
      · rintro ⟨a, ha, e⟩
        rcases List.mem_append.1 ha with ha | ha
        · exact ⟨a, ha, e⟩
        · rw [List.mem_singleton] at ha; subst ha
          exact (h.mem p).1 (by rw [← e, ← hy1]; exact List.mem_map_of_mem hy)
    · have := congrArg List.length h1
      rw [List.length_map, List.length_map] at this
      rw [this, List.length_append]; have := h.few; omega
  | none =>
    rw [setM_none hg]
    simp only [Option.isSome_none, Bool.false_eq_true, if_false]
    refine ⟨?_, ?_, fun x hx => ?_, fun p => ?_, by simp only [List.length_append, List.length_singleton]; have := h.few; omega⟩
    · rw [List.map_append, List.nodup_append]
      refine ⟨h.nd, List.pairwise_singleton _ _, fun a ha b hb e => ?_⟩
      simp only [List.map_cons, List.map_nil, List.mem_singleton] at hb
      obtain ⟨x, hx, rfl⟩ := List.mem_map.1 ha
      exact getM_none hg x hx (by rw [e, hb])
    · rw [List.map_append, List.nodup_append]
      refine ⟨h.bn, List.pairwise_singleton _ _, fun a ha b hb e => ?_⟩
      simp only [List.map_cons, List.map_nil, List.mem_singleton] at hb
      obtain ⟨x, hx, rfl⟩ := List.mem_map.1 ha
      have := h.lt x hx
      omega
    · rcases List.mem_append.1 hx with hx | hx
      · have := h.lt x hx; omega
      · rw [List.mem_singleton] at hx; subst hx; exact Nat.lt_succ_self _
    · rw [List.map_append, List.mem_append, h.mem]
      constructor
      · rintro (⟨a, ha, e⟩ | hp)
        · exact ⟨a, List.mem_append_left _ ha, e⟩
        · simp only [List.map_cons, List.map_nil, List.mem_singleton] at hp
          exact ⟨o, by simp, hp.symm⟩
      · rintro ⟨a, ha, e⟩
        rcases List.mem_append.1 ha with ha | ha
        · exact .inl ⟨a, ha, e⟩
        · rw [List.mem_singleton] at ha; subst ha; exact .inr (by simp [e])
end Go.Proofs.YtmdhcpghofadcaaGreat
