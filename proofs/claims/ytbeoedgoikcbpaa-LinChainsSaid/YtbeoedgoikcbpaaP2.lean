/- Texts put together by program: L17, L18, L19, L22a, L23, L24. -/
import Derived.Test.YtbeoedgoikcbpaaM1
import Derived.Shelf.Spec.SlicesInsert
import Derived.Shelf.Spec.SlicesInsertGrow
namespace Go.Proofs.Ytbeoedgoikcbpaa
set_option linter.unusedSimpArgs false
set_option linter.unusedVariables false
set_option maxRecDepth 100000
open Go Go.Ann Go.RowKit Go.Shelf
theorem setCells_blk {g : Nat} {e : TypeId} : ∀ (vs mid pre post : List Value) (o : Nat) (w : World), Blk w g (pre ++ (mid ++ post)).toArray e → mid.length = vs.length → pre.length = o →
    Blk (w.setCells g o vs) g (pre ++ (vs ++ post)).toArray e ∧ Chg (fun k => k = g) w (w.setCells g o vs)
  | [], [], pre, post, o, w, h, _, _ => ⟨h, Chg.refl _ _⟩
  | [], _ :: _, pre, post, o, w, h, hl, _ => by simp at hl
  | _ :: _, [], pre, post, o, w, h, hl, _ => by simp at hl
  | v :: vs, m :: mid, pre, post, o, w, h, hl, ho => by
    have h1 : Blk (w.setCell ⟨g, o, none⟩ v) g ((pre ++ [v]) ++ (mid ++ post)).toArray e := by
      have := h.set o v
      rw [List.setIfInBounds_toArray, List.set_append_right _ _ (by omega), ho, Nat.sub_self] at this
      simpa using this
    obtain ⟨h2, h3⟩ := setCells_blk vs mid (pre ++ [v]) post (o + 1) _ h1 (by simpa using hl) (by simp [ho])
    refine ⟨by simpa [World.setCells] using h2, ?_⟩
    simp only [World.setCells]
    exact Chg.trans ((Chg.refl (fun k => k = g) w).setCell ⟨g, o, none⟩ v (fun _ => rfl)) h3
theorem intE_map (s : List Int) : s.flatMap intE = s.map (Value.int .i64) := by
  induction s with
  | nil => rfl
  | cons x s ih => rw [List.flatMap_cons, ih]; rfl
theorem rd_of_blk {w : World} {g cap : Nat} {s : List Int} {rest : List Value} {t : TypeId} (hB : Blk w g (s.map (Value.int .i64) ++ rest).toArray t) (hc : s.length ≤ cap) {n : Nat} (hn : n = s.length) : RdS w 1 intE (.slice (some ⟨g, 0, none⟩) n cap) s := by
  subst hn
  refine ⟨by rw [intE_map]; simp, _, cap, rfl, hc, fun _ => ⟨_, rfl, fun j u hu => ?_⟩⟩
  rw [intE_map] at hu
  rw [Addr.add_lit, Nat.zero_add, hB.cell, List.getElem?_toArray, List.getElem?_append_left (by have := (List.getElem?_eq_some_iff.1 hu).1; exact this)]
  exact hu
theorem arr_app (l : List Value) (A : Array Value) : l.toArray ++ A = (l ++ A.toList).toArray := by apply Array.ext'; simp
theorem blk_new {w : World} {cs : Array Value} {t : TypeId} {l : List Value} {b : Nat} (hb : b = w.heap.size) (e : cs.toList = l) : Blk (w.alloc (.cells cs t)) b l.toArray t := by subst hb e; exact Blk.new
theorem zeroC_len (n : Nat) : (Builtin.zeroCells (Value.int .i64 0).cells n).toList.length = n := by
  simp [Builtin.zeroCells, Value.cells]
theorem ins_ok (v : Value) (s : List Int) (i : Nat) (x : Int) (b : Nat) (w : World) (B : Nat) (hB : B ≤ w.heap.size) (h : w.ownsRow B 3 1 v s.length (s.flatMap intE)) (hx : Blk w b #[.int .i64 x] 3) (hne : v.ownBlock ≠ some b) (hi : i ≤ s.length) (hl : s.length ≤ 1000000) :
    Ret Try.prog 123 [v, .int .i64 i, .slice (some ⟨b, 0, none⟩) 1 1] w fun u w' => RdS w' 1 intE u (s.take i ++ x :: s.drop i) ∧ (∀ k, slFoot u k → v.ownBlock = some k ∨ w.heap.size ≤ k) ∧ Chg (fun k => v.ownBlock = some k) w w' := by
  have h1v : ∀ u ∈ [Value.int .i64 x], u.oneCell' = true := by intro u hu; rw [List.mem_singleton] at hu; subst hu; rfl
  have hvs : ∀ j u, [Value.int .i64 x][j]? = some u → w.cell? ⟨b, 0 + j, none⟩ = some u := fun j u hj => by rw [Nat.zero_add, hx.cell]; simpa using hj
  have hcl : (s.map (Value.int .i64)).length = s.length := by simp
  have h1c : ∀ u ∈ s.map (Value.int .i64), u.oneCell' = true := fun u hu => by obtain ⟨y, _, rfl⟩ := List.mem_map.1 hu; rfl
  have hlen : (s.take i ++ x :: s.drop i).length = s.length + 1 := by simp; omega
  rw [intE_map] at h
  rcases h.2 with ⟨rfl, h0⟩ | ⟨g, c, cur, rfl, hg, hb, hnc, hcm, hcs, htk⟩
  · have hs : s = [] := List.eq_nil_of_length_eq_zero h0
    subst hs
    obtain rfl : i = 0 := by simpa using hi
    have := Any2.slices_Insert_int_end_grow layIns none 0 0 b 0 1 1 [] [.int .i64 x] w (by omega) (by omega) (by omega) (by omega) rfl rfl (fun _ => rfl) (fun a ha => by cases ha) hvs h1v
    refine this.mono ?_
    rintro e w' ⟨rfl, rfl⟩
    refine ⟨_, rfl, rd_of_blk (s := [x]) (rest := (Builtin.zeroCells (Value.int .i64 0).cells (grownCap w (0 + 1) 0 3 - (0 + 1))).toList) (t := 3) ?_ (by simpa using grownCap_ge w (0 + 1) 0 _) rfl, fun k hk => .inr ?_, Chg.of_below ((Below.refl _ w).drew.alloc (Nat.le_refl _) _)⟩
    · exact blk_new rfl (by rw [arr_app]; rfl)
    · have := slFoot_own hk
      simp only [Value.ownBlock, Option.some.injEq] at this
      omega
  · have hlt : g < w.heap.size := Blk.lt hb
    have hgb : b ≠ g := fun e => hne (by rw [e]; rfl)
    simp only [Nat.mul_one] at hcs htk
    have hcur : cur = (s.map (Value.int .i64) ++ cur.toList.drop s.length).toArray := by
      apply Array.ext'
      rw [List.toList_toArray, ← htk, List.take_append_drop]
    obtain ⟨tl, htl⟩ : ∃ tl, tl = cur.toList.drop s.length := ⟨_, rfl⟩
    rw [← htl] at hcur
    have htll : tl.length = c - s.length := by rw [htl, List.length_drop, Array.length_toList, hcs]
    have hbb : Blk w g (s.map (Value.int .i64) ++ tl).toArray 3 := by rw [← hcur]; exact hb
    have hmax : c ≤ 9223372036854775807 := hcm
    have hcells : ∀ j u, (s.map (Value.int .i64))[j]? = some u → w.cell? ⟨g, 0 + j, none⟩ = some u := fun j u hj => by
      rw [Nat.zero_add, hbb.cell, List.getElem?_toArray, List.getElem?_append_left (List.getElem?_eq_some_iff.1 hj).1]; exact hj
    have hsome : ∀ j, j < c → (w.cell? ⟨g, 0 + j, none⟩).isSome = true := fun j hj => by
      rw [Nat.zero_add, hbb.cell, List.getElem?_toArray, List.getElem?_eq_getElem (by simp; omega)]; rfl
    have hfz : ∀ j, w.frozen? ⟨g, j, none⟩ = false := hbb.frozen
    have own : ∀ {k n c'}, slFoot (.slice (some ⟨g, 0, none⟩) n c') k → (Value.slice (some ⟨g, 0, none⟩) s.length c).ownBlock = some k ∨ w.heap.size ≤ k := fun hk => .inl (by have := slFoot_own hk; simpa [Value.ownBlock] using this)
    have new : ∀ {k n c'}, slFoot (.slice (some ⟨w.heap.size, 0, none⟩) n c') k → (Value.slice (some ⟨g, 0, none⟩) s.length c).ownBlock = some k ∨ w.heap.size ≤ k := fun hk => .inr (by have := slFoot_own hk; simp only [Value.ownBlock, Option.some.injEq] at this; omega)
    have chgo : ∀ {w' : World}, Chg (fun k => k = g) w w' → Chg (fun k => (Value.slice (some ⟨g, 0, none⟩) s.length c).ownBlock = some k) w w' := fun hc => ⟨hc.os, hc.tape, hc.output, hc.size, fun k hk hS => hc.block k hk fun e => hS (by rw [e]; rfl)⟩
    rcases Nat.lt_or_ge i s.length with hin | hin
    · have e1 : s.map (Value.int .i64) = (s.take i).map (Value.int .i64) ++ (s.drop i).map (Value.int .i64) := by rw [← List.map_append, List.take_append_drop]
      rcases Nat.lt_or_ge c (s.length + 1) with hroom | hroom
      · have := Any2.slices_Insert_int_grow layIns g 0 s.length c i b 0 1 1 (s.map (Value.int .i64)) [.int .i64 x] w hin (by omega) hnc hroom (by omega) hcl rfl hcells hvs h1c h1v
        refine this.mono ?_
        rintro e w' ⟨rfl, rfl⟩
        obtain ⟨G, hG⟩ : ∃ G, G = grownCap w (s.length + 1) c 3 := ⟨_, rfl⟩
        have hGe : s.length + 1 ≤ G := by rw [hG]; exact grownCap_ge w (s.length + 1) c _
        obtain ⟨Z1, hZ1⟩ : ∃ Z, Z = (Builtin.zeroCells (Value.int .i64 0).cells (s.length + 1 - i)).toList := ⟨_, rfl⟩
        obtain ⟨Z2, hZ2⟩ : ∃ Z, Z = (Builtin.zeroCells (Value.int .i64 0).cells (G - (s.length + 1))).toList := ⟨_, rfl⟩
        have lz1 : Z1.length = s.length + 1 - i := by rw [hZ1]; exact zeroC_len _
        obtain ⟨z, Z1', rfl⟩ : ∃ z Z, Z1 = z :: Z := by
          cases Z1 with
          | nil => simp at lz1; omega
          | cons z Z => exact ⟨z, Z, rfl⟩
        have b0 : Blk (w.alloc (.cells (((s.map (Value.int .i64)).take i).toArray ++ Builtin.zeroCells (Value.int .i64 0).cells (s.length + 1 - i) ++ Builtin.zeroCells (Value.int .i64 0).cells (G - (s.length + 1))) 3)) w.heap.size ((s.take i).map (Value.int .i64) ++ ([z] ++ (Z1' ++ Z2))).toArray 3 := by
          refine blk_new rfl ?_
          rw [arr_app, arr_app, ← hZ1, ← hZ2, ← List.map_take]
          simp
        have hlen1 : ((s.take i).map (Value.int .i64)).length = i := by simp; omega
        obtain ⟨b1, c1⟩ := setCells_blk [Value.int .i64 x] [z] ((s.take i).map (Value.int .i64)) (Z1' ++ Z2) i _ b0.drew rfl hlen1
        have b1' := b1
        rw [← List.append_assoc] at b1'
        obtain ⟨b2, c2⟩ := setCells_blk ((s.drop i).map (Value.int .i64)) Z1' ((s.take i).map (Value.int .i64) ++ [Value.int .i64 x]) Z2 (i + 1) _ b1'.drew (by simp at lz1 ⊢; omega) (by simp; omega)
        rw [← List.map_drop, show layIns_ren.t 3 = 3 from rfl]
        refine ⟨_, rfl, rd_of_blk (s := s.take i ++ x :: s.drop i) (rest := Z2) (t := 3) (by rw [← hG]; simpa using b2) (by rw [hlen]; exact grownCap_ge w (s.length + 1) c _) hlen.symm, fun k hk => new hk, ?_⟩
        rw [← hG]
        have hdr : ∀ {S : Nat → Prop} {a : World}, Chg S a a.drew := fun {S a} => (Chg.refl S a).drew
        have cc : Chg (fun k => k = w.heap.size) (w.alloc (.cells (((s.map (Value.int .i64)).take i).toArray ++ Builtin.zeroCells (Value.int .i64 0).cells (s.length + 1 - i) ++ Builtin.zeroCells (Value.int .i64 0).cells (G - (s.length + 1))) 3)) _ := hdr.trans (c1.trans (hdr.trans c2))
        exact Chg.of_below (((Below.refl _ w).alloc (Nat.le_refl _) _).trans (cc.below (by simp) fun k hk e => by omega))
      · have hmid : ∃ t0 tl', tl = t0 :: tl' := by
          cases tl with
          | nil => simp at htll; omega
          | cons t0 tl' => exact ⟨t0, tl', rfl⟩
        obtain ⟨t0, tl', rfl⟩ := hmid
        have hshA : w.shape? b = some (3, 1) := by unfold World.shape?; rw [hx]; rfl
        have hshB : w.shape? g = some (3, cur.size) := by unfold World.shape?; rw [hb]
        have := Any2.slices_Insert_int_shift layIns g 0 s.length c i b 0 1 1 (s.map (Value.int .i64)) [.int .i64 x] w hin (by omega) hroom hmax hgb hcl rfl hcells (fun j hj => hsome j (by omega)) (fun j _ => hfz _) hvs h1c h1v _ _ _ _ hshA hshB (by omega) (hx.frozen 0) (hx.frozen 1)
        refine this.mono ?_
        rintro e w' ⟨rfl, rfl⟩
        have hdi : (s.drop i).map (Value.int .i64) = Value.int .i64 s[i] :: (s.drop (i + 1)).map (Value.int .i64) := by rw [List.drop_eq_getElem_cons hin]; rfl
        have b0 : Blk w g (((s.take i).map (Value.int .i64) ++ [Value.int .i64 s[i]]) ++ (((s.drop (i + 1)).map (Value.int .i64) ++ [t0]) ++ tl')).toArray 3 := by
          have := hbb
          rw [e1, hdi] at this
          simpa using this
        obtain ⟨b1, c1⟩ := setCells_blk ((s.drop i).map (Value.int .i64)) _ _ _ (i + 1) _ b0.drew (by simp; omega) (by simp; omega)
        have b1' : Blk (w.drew.setCells g (i + 1) ((s.drop i).map (Value.int .i64))) g ((s.take i).map (Value.int .i64) ++ ([Value.int .i64 s[i]] ++ ((s.drop i).map (Value.int .i64) ++ tl'))).toArray 3 := by simpa using b1
        obtain ⟨b2, c2⟩ := setCells_blk [Value.int .i64 x] _ _ _ i _ b1' rfl (by simp; omega)
        rw [← List.map_drop, Nat.zero_add, Nat.zero_add]
        refine ⟨_, rfl, rd_of_blk (s := s.take i ++ x :: s.drop i) (rest := tl') (t := 3) (by simpa using b2) (by rw [hlen]; exact hroom) hlen.symm, fun k hk => own hk, chgo ((Chg.refl _ w).drew.trans (c1.trans c2))⟩
    · obtain rfl : i = s.length := by omega
      have e2 : s.take s.length ++ x :: s.drop s.length = s ++ [x] := by rw [List.take_length, List.drop_length]
      rw [e2] at hlen ⊢
      rcases Nat.lt_or_ge c (s.length + 1) with hroom | hroom
      · have := Any2.slices_Insert_int_end_grow layIns (some ⟨g, 0, none⟩) s.length c b 0 1 1 (s.map (Value.int .i64)) [.int .i64 x] w (by omega) hnc hroom (by omega) hcl rfl (fun h => by cases h) (fun a ha j u hj => by cases ha; rw [Addr.add_lit]; exact hcells j u hj) hvs h1v
        refine this.mono ?_
        rintro e w' ⟨rfl, rfl⟩
        refine ⟨_, rfl, rd_of_blk (s := s ++ [x]) (rest := (Builtin.zeroCells (Value.int .i64 0).cells (grownCap w (s.length + 1) c 3 - (s.length + 1))).toList) (t := 3) ?_ (by rw [hlen]; exact grownCap_ge w (s.length + 1) c _) hlen.symm, fun k hk => new hk, Chg.of_below ((Below.refl _ w).drew.alloc (Nat.le_refl _) _)⟩
        refine blk_new rfl ?_
        rw [arr_app, List.map_append]; rfl
      · have hmid : ∃ t0 tl', tl = t0 :: tl' := by
          cases tl with
          | nil => simp at htll; omega
          | cons t0 tl' => exact ⟨t0, tl', rfl⟩
        obtain ⟨t0, tl', rfl⟩ := hmid
        have := Any2.slices_Insert_int_end_room layIns g 0 s.length c b 0 1 1 [.int .i64 x] w (by omega) hroom hmax rfl (fun j hj => by have := hsome (s.length + j) (by omega); rwa [← Nat.add_assoc] at this) (fun j _ => hfz _) hvs h1v
        refine this.mono ?_
        rintro e w' ⟨rfl, rfl⟩
        obtain ⟨b1, c1⟩ := setCells_blk [Value.int .i64 x] [t0] (s.map (Value.int .i64)) tl' s.length w hbb rfl (by simp)
        rw [Nat.zero_add]
        refine ⟨_, rfl, rd_of_blk (s := s ++ [x]) (rest := tl') (t := 3) (by rw [List.map_append]; simpa using b1) (by rw [hlen]; exact hroom) hlen.symm, fun k hk => own hk, chgo c1⟩
end Go.Proofs.Ytbeoedgoikcbpaa
namespace Go.Proofs.Ytbeoedgoikcbpaa
set_option linter.unusedSimpArgs false
set_option linter.unusedVariables false
set_option maxRecDepth 100000
open Go Go.Ann Go.RowKit Go.Shelf
def insP (s : List Int) (x : Int) : List Int := s.take (s.countP (· < x)) ++ x :: s.drop (s.countP (· < x))
def delP (s : List Int) (x : Int) : List Int := s.filter (fun y => !decide (y = x))
def setP (s : List Int) (o : OpT) : Option (List Int × Int) :=
  if o.Method = 12 then some (s, if o.Arg ∈ s then 1 else 0)
  else if o.Method = 10 then (if o.Arg ∈ s then some (s, 0) else some (insP s o.Arg, 1))
  else if o.Method = 11 then (if o.Arg ∈ s then some (delP s o.Arg, 1) else some (s, 0))
  else none
theorem count_zero {x y : Int} {r : List Int} (h : ∀ a ∈ r, y < a) (hx : x ≤ y) : r.countP (· < x) = 0 := by
  rw [List.countP_eq_zero]
  intro a ha
  have := h a ha
  simp; omega
theorem insP_cons_lt {y x : Int} {r : List Int} (h : y < x) : insP (y :: r) x = y :: insP r x := by
  unfold insP
  rw [List.countP_cons_of_pos (by simpa using h)]
  rfl
theorem insP_cons_ge {y x : Int} {r : List Int} (hs : ∀ a ∈ r, y < a) (h : x ≤ y) : insP (y :: r) x = x :: y :: r := by
  unfold insP
  rw [List.countP_cons_of_neg (by simp; omega), count_zero hs h]
  rfl
theorem insP_mem {x a : Int} {s : List Int} : a ∈ insP s x ↔ a = x ∨ a ∈ s := by
  unfold insP
  rw [List.mem_append, List.mem_cons]
  have : a ∈ s ↔ a ∈ s.take (s.countP (· < x)) ∨ a ∈ s.drop (s.countP (· < x)) := by rw [← List.mem_append, List.take_append_drop]
  rw [this]
  constructor
  · rintro (h | h | h)
    · exact .inr (.inl h)
    · exact .inl h
    · exact .inr (.inr h)
  · rintro (h | h | h)
    · exact .inr (.inl h)
    · exact .inl h
    · exact .inr (.inr h)
theorem insP_sorted {x : Int} : ∀ {s : List Int}, s.Pairwise (· < ·) → x ∉ s → (insP s x).Pairwise (· < ·)
  | [], _, _ => by simp [insP]
  | y :: r, hs, hx => by
    obtain ⟨h1, h2⟩ := List.pairwise_cons.1 hs
    have hne : x ≠ y := fun e => hx (by rw [e]; exact List.mem_cons_self ..)
    rcases Int.lt_or_le y x with h | h
    · rw [insP_cons_lt h]
      refine List.pairwise_cons.2 ⟨fun a ha => ?_, insP_sorted h2 fun hm => hx (List.mem_cons_of_mem _ hm)⟩
      rcases insP_mem.1 ha with e | ha
      · omega
      · exact h1 a ha
    · rw [insP_cons_ge h1 h]
      refine List.pairwise_cons.2 ⟨fun a ha => ?_, hs⟩
      rcases List.mem_cons.1 ha with e | ha
      · omega
      · have := h1 a ha; omega
theorem delP_sorted {x : Int} {s : List Int} (hs : s.Pairwise (· < ·)) : (delP s x).Pairwise (· < ·) := hs.filter _
theorem delP_cut {x : Int} : ∀ {s : List Int}, s.Pairwise (· < ·) → x ∈ s → s.countP (· < x) < s.length ∧ s.take (s.countP (· < x)) ++ s.drop (s.countP (· < x) + 1) = delP s x
  | y :: r, hs, hx => by
    obtain ⟨h1, h2⟩ := List.pairwise_cons.1 hs
    rcases Int.lt_or_le y x with h | h
    · have hr : x ∈ r := by
        rcases List.mem_cons.1 hx with e | e
        · omega
        · exact e
      obtain ⟨i1, i2⟩ := delP_cut h2 hr
      rw [List.countP_cons_of_pos (by simpa using h)]
      refine ⟨by simp; omega, ?_⟩
      rw [List.take_succ_cons, List.drop_succ_cons, List.cons_append, i2]
      unfold delP
      rw [List.filter_cons_of_pos (by simp; omega)]
    · have e : x = y := by
        rcases List.mem_cons.1 hx with e | e
        · exact e
        · have := h1 x e; omega
      subst e
      rw [List.countP_cons_of_neg (by simp), count_zero h1 (Int.le_refl _)]
      refine ⟨by simp, ?_⟩
      unfold delP
      rw [List.filter_cons_of_neg (by simp), List.take_zero, List.nil_append, List.drop_succ_cons, List.drop_zero]
      exact (List.filter_eq_self.2 fun a ha => by have := h1 a ha; simp; omega).symm
theorem flag_ok (b : Bool) (w : World) : Ret Try.prog 122 [.bool b] w fun u w' => u = .int .i64 (if b = true then 1 else 0) ∧ w' = w := by
  refine ent122 _ _ _ ?_
  cases b
  · simp (disch := first | omega | exact okFill_t rfl | exact okSize_t rfl | exact fun h => h | (simp only [World.size_alloc, World.size_drew, World.size_setCell, size_fill, bytesW]; omega)) only [go_sem, ↓reduceIte, reduceCtorEq, Nat.reduceBEq, Nat.reduceEqDiff, Nat.reduceAdd, Nat.reduceMul, Int.reduceNe, Int.reduceEq, Int.reduceLT, Int.reduceLE, Int.reduceNeg, Int.reduceAdd, Int.reduceSub, Int.reduceMul, Int.reduceToNat, beq_self_eq_true, c122, c122S0]
  · simp (disch := first | omega | exact okFill_t rfl | exact okSize_t rfl | exact fun h => h | (simp only [World.size_alloc, World.size_drew, World.size_setCell, size_fill, bytesW]; omega)) only [go_sem, ↓reduceIte, reduceCtorEq, Nat.reduceBEq, Nat.reduceEqDiff, Nat.reduceAdd, Nat.reduceMul, Int.reduceNe, Int.reduceEq, Int.reduceLT, Int.reduceLE, Int.reduceNeg, Int.reduceAdd, Int.reduceSub, Int.reduceMul, Int.reduceToNat, beq_self_eq_true, c122, c122S0]
theorem own_blk {w : World} {B n : Nat} {v : Value} {s : List Int} (h : w.ownsRow B 3 1 v n (s.flatMap intE)) (h0 : 0 < n) : ∃ g cap rest, v = .slice (some ⟨g, 0, none⟩) n cap ∧ n ≤ cap ∧ cap ≤ 9223372036854775807 ∧ B ≤ g ∧ Blk w g (s.map (Value.int .i64) ++ rest).toArray 3 := by
  rcases h.2 with ⟨rfl, h1⟩ | ⟨g, c, cur, rfl, hg, hb, hnc, hcm, hcs, htk⟩
  · omega
  · rw [intE_map, Nat.mul_one] at htk
    refine ⟨g, c, cur.toList.drop n, rfl, hnc, hcm, hg, ?_⟩
    rw [← htk, List.take_append_drop]; exact hb
theorem set_ok (v : Value) (s : List Int) (o : OpT) (w : World) (B : Nat) (hB : B ≤ w.heap.size) (h : w.ownsRow B 3 1 v s.length (s.flatMap intE)) (hl : s.length ≤ 1000000) (hs : s.Pairwise (· < ·)) :
    Ret Try.prog 94 [v, .agg o.enc.toArray] w fun u w' => StepR w w' v (setP s o) u ∧ Chg (fun k => v.ownBlock = some k) w w' := by
  obtain ⟨a, c, rfl, _⟩ := own_slice h
  refine ent94 _ _ _ _ ?_
  have ho := o.at
  have hw1 : Below w.heap.size w (w.alloc (.cells o.enc.toArray 58)) := (Below.refl _ w).alloc (Nat.le_refl _) _
  have hr : RdS w 1 intE (.slice a s.length c) s := RdS.of_own' h s rfl rfl
  have hsp : ∀ a' n c', Value.slice a s.length c = .slice (some a') n c' → n ≠ 0 → a'.spot = none := fun a' n c' e hn => by
    cases e
    obtain ⟨g, cap, rest, e, _⟩ := own_blk h (by omega)
    cases e; rfl
  simp (disch := first | omega | exact okFill_t rfl | exact okSize_t rfl | exact fun h => h | (simp only [World.size_alloc, World.size_drew, World.size_setCell, size_fill, bytesW]; omega)) only [go_sem, ↓reduceIte, reduceCtorEq, Nat.reduceBEq, Nat.reduceEqDiff, Nat.reduceAdd, Nat.reduceMul, Int.reduceNe, Int.reduceEq, Int.reduceLT, Int.reduceLE, Int.reduceNeg, Int.reduceAdd, Int.reduceSub, Int.reduceMul, Int.reduceToNat, beq_self_eq_true, c94, c94S0, c94S1, c94S2, c94S3, c94S4, ho]
  refine ⟨by kernel_rfl, Ret.mono (bsearch_ok _ s o.Arg _ (hr.below hw1 (by decide)) hsp hl (hs.imp fun h => Int.le_of_lt h)) ?_⟩
  rintro _ w2 ⟨rfl, b2⟩
  have bb := Below.next hw1 b2
  have cb : ∀ {S : Nat → Prop}, Chg S w w2 := Chg.of_below bb
  have hB2 : Blk w2 w.heap.size o.enc.toArray 58 := Blk.new.below b2 Blk.new.lt
  have r2 := hB2.rules
  have same : ∀ {n : Int} {b : Bool}, setP s o = some (s, n) → StepR w w2 (.slice a s.length c) (setP s o) (.tuple #[.slice a s.length c, .int .i64 n, .bool true]) := fun e => ⟨_, _, _, rfl, by
    rw [e]; exact ⟨rfl, rfl, hr.below bb (by decide), fun k hk => .inl (slFoot_own hk)⟩⟩
  have hcle := List.countP_le_length (p := fun y : Int => decide (y < o.Arg)) (l := s)
  have own2 := (cb (S := fun _ => False)).own h fun _ _ h => h
  by_cases m12 : o.Method = 12
  · cases hin : s.contains o.Arg with
    | true =>
      have e : setP s o = some (s, 1) := by unfold setP; rw [if_pos m12, if_pos (by simpa using hin)]
      simp (disch := first | omega | exact okFill_t rfl | exact okSize_t rfl | exact fun h => h | (simp only [World.size_alloc, World.size_drew, World.size_setCell, size_fill, bytesW]; omega)) only [go_sem, ↓reduceIte, reduceCtorEq, Nat.reduceBEq, Nat.reduceEqDiff, Nat.reduceAdd, Nat.reduceMul, Int.reduceNe, Int.reduceEq, Int.reduceLT, Int.reduceLE, Int.reduceNeg, Int.reduceAdd, Int.reduceSub, Int.reduceMul, Int.reduceToNat, beq_self_eq_true, c94, c94S0, c94S1, c94S2, c94S3, c94S4, c94S5, r2, ho, m12]
      refine Ret.mono (flag_ok _ _) ?_
      rintro _ _ ⟨rfl, rfl⟩
      simp (disch := first | omega | exact okFill_t rfl | exact okSize_t rfl | exact fun h => h | (simp only [World.size_alloc, World.size_drew, World.size_setCell, size_fill, bytesW]; omega)) only [go_sem, ↓reduceIte, reduceCtorEq, Nat.reduceBEq, Nat.reduceEqDiff, Nat.reduceAdd, Nat.reduceMul, Int.reduceNe, Int.reduceEq, Int.reduceLT, Int.reduceLE, Int.reduceNeg, Int.reduceAdd, Int.reduceSub, Int.reduceMul, Int.reduceToNat, beq_self_eq_true, c94, c94S0, c94S1, c94S2, c94S3, c94S4, c94S5]
      exact ⟨same (b := true) e, cb⟩
    | false =>
      have e : setP s o = some (s, 0) := by unfold setP; rw [if_pos m12, if_neg (by simpa using hin)]
      simp (disch := first | omega | exact okFill_t rfl | exact okSize_t rfl | exact fun h => h | (simp only [World.size_alloc, World.size_drew, World.size_setCell, size_fill, bytesW]; omega)) only [go_sem, ↓reduceIte, reduceCtorEq, Nat.reduceBEq, Nat.reduceEqDiff, Nat.reduceAdd, Nat.reduceMul, Int.reduceNe, Int.reduceEq, Int.reduceLT, Int.reduceLE, Int.reduceNeg, Int.reduceAdd, Int.reduceSub, Int.reduceMul, Int.reduceToNat, beq_self_eq_true, c94, c94S0, c94S1, c94S2, c94S3, c94S4, c94S5, r2, ho, m12]
      refine Ret.mono (flag_ok _ _) ?_
      rintro _ _ ⟨rfl, rfl⟩
      simp (disch := first | omega | exact okFill_t rfl | exact okSize_t rfl | exact fun h => h | (simp only [World.size_alloc, World.size_drew, World.size_setCell, size_fill, bytesW]; omega)) only [go_sem, ↓reduceIte, reduceCtorEq, Nat.reduceBEq, Nat.reduceEqDiff, Nat.reduceAdd, Nat.reduceMul, Int.reduceNe, Int.reduceEq, Int.reduceLT, Int.reduceLE, Int.reduceNeg, Int.reduceAdd, Int.reduceSub, Int.reduceMul, Int.reduceToNat, beq_self_eq_true, c94, c94S0, c94S1, c94S2, c94S3, c94S4, c94S5]
      exact ⟨same (b := true) e, cb⟩
  by_cases m10 : o.Method = 10
  · cases hin : s.contains o.Arg with
    | true =>
      have e : setP s o = some (s, 0) := by unfold setP; rw [if_neg m12, if_pos m10, if_pos (by simpa using hin)]
      simp (disch := first | omega | exact okFill_t rfl | exact okSize_t rfl | exact fun h => h | (simp only [World.size_alloc, World.size_drew, World.size_setCell, size_fill, bytesW]; omega)) only [go_sem, ↓reduceIte, reduceCtorEq, Nat.reduceBEq, Nat.reduceEqDiff, Nat.reduceAdd, Nat.reduceMul, Int.reduceNe, Int.reduceEq, Int.reduceLT, Int.reduceLE, Int.reduceNeg, Int.reduceAdd, Int.reduceSub, Int.reduceMul, Int.reduceToNat, beq_self_eq_true, c94, c94S0, c94S1, c94S2, c94S3, c94S4, c94S5, r2, ho, m10]
      refine Ret.mono (flag_ok _ _) ?_
      rintro _ _ ⟨rfl, rfl⟩
      simp (disch := first | omega | exact okFill_t rfl | exact okSize_t rfl | exact fun h => h | (simp only [World.size_alloc, World.size_drew, World.size_setCell, size_fill, bytesW]; omega)) only [go_sem, ↓reduceIte, reduceCtorEq, Nat.reduceBEq, Nat.reduceEqDiff, Nat.reduceAdd, Nat.reduceMul, Int.reduceNe, Int.reduceEq, Int.reduceLT, Int.reduceLE, Int.reduceNeg, Int.reduceAdd, Int.reduceSub, Int.reduceMul, Int.reduceToNat, beq_self_eq_true, c94, c94S0, c94S1, c94S2, c94S3, c94S4, c94S5]
      exact ⟨same (b := true) e, cb⟩
    | false =>
      have e : setP s o = some (insP s o.Arg, 1) := by unfold setP; rw [if_neg m12, if_pos m10, if_neg (by simpa using hin)]
      simp (disch := first | omega | exact okFill_t rfl | exact okSize_t rfl | exact fun h => h | (simp only [World.size_alloc, World.size_drew, World.size_setCell, size_fill, bytesW]; omega)) only [go_sem, ↓reduceIte, reduceCtorEq, Nat.reduceBEq, Nat.reduceEqDiff, Nat.reduceAdd, Nat.reduceMul, Int.reduceNe, Int.reduceEq, Int.reduceLT, Int.reduceLE, Int.reduceNeg, Int.reduceAdd, Int.reduceSub, Int.reduceMul, Int.reduceToNat, beq_self_eq_true, c94, c94S0, c94S1, c94S2, c94S3, c94S4, c94S5, r2, ho, m10]
      refine bsW_ones ty36mkI rfl rfl (by decide) (by decide) (intE_one _) ?_
      simp (disch := first | omega | exact okFill_t rfl | exact okSize_t rfl | exact fun h => h | (simp only [World.size_alloc, World.size_drew, World.size_setCell, size_fill, bytesW]; omega)) only [go_sem, ↓reduceIte, reduceCtorEq, Nat.reduceBEq, Nat.reduceEqDiff, Nat.reduceAdd, Nat.reduceMul, Int.reduceNe, Int.reduceEq, Int.reduceLT, Int.reduceLE, Int.reduceNeg, Int.reduceAdd, Int.reduceSub, Int.reduceMul, Int.reduceToNat, beq_self_eq_true, c94, c94S0, c94S1, c94S2, c94S3, c94S4, c94S5]
      have b3 := (Below.refl w2.heap.size w2).alloc (Nat.le_refl _) (.cells #[.int .i64 o.Arg] 3)
      have own3 := (Chg.of_below (S := fun _ => False) b3).own own2 fun _ _ h => h
      have hsz := b2.size
      have hsz1 := bb.size
      refine ⟨by kernel_rfl, Ret.mono (ins_ok _ s (s.countP (· < o.Arg)) o.Arg w2.heap.size _ B (by simp; omega) own3 Blk.new (fun e => ?_) hcle hl) ?_⟩
      · have := World.ownsRow.lt h _ e
        omega
      rintro u w4 ⟨h4, f4, c4⟩
      simp (disch := first | omega | exact okFill_t rfl | exact okSize_t rfl | exact fun h => h | (simp only [World.size_alloc, World.size_drew, World.size_setCell, size_fill, bytesW]; omega)) only [go_sem, ↓reduceIte, reduceCtorEq, Nat.reduceBEq, Nat.reduceEqDiff, Nat.reduceAdd, Nat.reduceMul, Int.reduceNe, Int.reduceEq, Int.reduceLT, Int.reduceLE, Int.reduceNeg, Int.reduceAdd, Int.reduceSub, Int.reduceMul, Int.reduceToNat, beq_self_eq_true, c94, c94S0, c94S1, c94S2, c94S3, c94S4, c94S5]
      refine ⟨⟨_, _, _, rfl, ?_⟩, (cb.trans (Chg.of_below b3)).trans c4⟩
      rw [e]
      refine ⟨rfl, rfl, h4, fun k hk => (f4 k hk).imp id fun h => ?_⟩
      simp only [World.size_alloc] at h
      omega
  by_cases m11 : o.Method = 11
  · cases hin : s.contains o.Arg with
    | true =>
      have hmem : o.Arg ∈ s := by simpa using hin
      have e : setP s o = some (delP s o.Arg, 1) := by unfold setP; rw [if_neg m12, if_neg m10, if_pos m11, if_pos hmem]
      obtain ⟨d1, d2⟩ := delP_cut hs hmem
      simp (disch := first | omega | exact okFill_t rfl | exact okSize_t rfl | exact fun h => h | (simp only [World.size_alloc, World.size_drew, World.size_setCell, size_fill, bytesW]; omega)) only [go_sem, ↓reduceIte, reduceCtorEq, Nat.reduceBEq, Nat.reduceEqDiff, Nat.reduceAdd, Nat.reduceMul, Int.reduceNe, Int.reduceEq, Int.reduceLT, Int.reduceLE, Int.reduceNeg, Int.reduceAdd, Int.reduceSub, Int.reduceMul, Int.reduceToNat, beq_self_eq_true, c94, c94S0, c94S1, c94S2, c94S3, c94S4, c94S5, r2, ho, m11]
      obtain ⟨g, cap, rest, e1, hnc, hcm, hg, hblk⟩ := own_blk own2 (by omega)
      cases e1
      refine ⟨⟨by omega, by omega⟩, by kernel_rfl, Ret.mono (delete_ok g c (s.countP (· < o.Arg)) s rest w2 hblk hnc hcm d1) ?_⟩
      rintro _ w4 ⟨rfl, ⟨rest', h4⟩, c4⟩
      simp (disch := first | omega | exact okFill_t rfl | exact okSize_t rfl | exact fun h => h | (simp only [World.size_alloc, World.size_drew, World.size_setCell, size_fill, bytesW]; omega)) only [go_sem, ↓reduceIte, reduceCtorEq, Nat.reduceBEq, Nat.reduceEqDiff, Nat.reduceAdd, Nat.reduceMul, Int.reduceNe, Int.reduceEq, Int.reduceLT, Int.reduceLE, Int.reduceNeg, Int.reduceAdd, Int.reduceSub, Int.reduceMul, Int.reduceToNat, beq_self_eq_true, c94, c94S0, c94S1, c94S2, c94S3, c94S4, c94S5]
      rw [d2] at h4
      have hlen : s.length - 1 = (delP s o.Arg).length := by rw [← d2]; simp; omega
      refine ⟨⟨_, _, _, rfl, ?_⟩, cb.trans ⟨c4.os, c4.tape, c4.output, c4.size, fun k hk hS => c4.block k hk fun e => hS (by rw [e]; rfl)⟩⟩
      rw [e]
      exact ⟨rfl, rfl, rd_of_blk h4 (by omega) hlen, fun k hk => .inl (by have := slFoot_own hk; exact this)⟩
    | false =>
      have e : setP s o = some (s, 0) := by unfold setP; rw [if_neg m12, if_neg m10, if_pos m11, if_neg (by simpa using hin)]
      simp (disch := first | omega | exact okFill_t rfl | exact okSize_t rfl | exact fun h => h | (simp only [World.size_alloc, World.size_drew, World.size_setCell, size_fill, bytesW]; omega)) only [go_sem, ↓reduceIte, reduceCtorEq, Nat.reduceBEq, Nat.reduceEqDiff, Nat.reduceAdd, Nat.reduceMul, Int.reduceNe, Int.reduceEq, Int.reduceLT, Int.reduceLE, Int.reduceNeg, Int.reduceAdd, Int.reduceSub, Int.reduceMul, Int.reduceToNat, beq_self_eq_true, c94, c94S0, c94S1, c94S2, c94S3, c94S4, c94S5, r2, ho, m11]
      refine Ret.mono (flag_ok _ _) ?_
      rintro _ _ ⟨rfl, rfl⟩
      simp (disch := first | omega | exact okFill_t rfl | exact okSize_t rfl | exact fun h => h | (simp only [World.size_alloc, World.size_drew, World.size_setCell, size_fill, bytesW]; omega)) only [go_sem, ↓reduceIte, reduceCtorEq, Nat.reduceBEq, Nat.reduceEqDiff, Nat.reduceAdd, Nat.reduceMul, Int.reduceNe, Int.reduceEq, Int.reduceLT, Int.reduceLE, Int.reduceNeg, Int.reduceAdd, Int.reduceSub, Int.reduceMul, Int.reduceToNat, beq_self_eq_true, c94, c94S0, c94S1, c94S2, c94S3, c94S4, c94S5]
      exact ⟨same (b := true) e, cb⟩
  · have e : setP s o = none := by unfold setP; rw [if_neg m12, if_neg m10, if_neg m11]
    cases hin : s.contains o.Arg
    all_goals
      simp (disch := first | omega | exact okFill_t rfl | exact okSize_t rfl | exact fun h => h | (simp only [World.size_alloc, World.size_drew, World.size_setCell, size_fill, bytesW]; omega)) only [go_sem, ↓reduceIte, reduceCtorEq, Nat.reduceBEq, Nat.reduceEqDiff, Nat.reduceAdd, Nat.reduceMul, Int.reduceNe, Int.reduceEq, Int.reduceLT, Int.reduceLE, Int.reduceNeg, Int.reduceAdd, Int.reduceSub, Int.reduceMul, Int.reduceToNat, beq_self_eq_true, c94, c94S0, c94S1, c94S2, c94S3, c94S4, c94S5, r2, ho, m10, m11, m12]
      exact ⟨⟨_, _, _, rfl, by rw [e]⟩, cb⟩
end Go.Proofs.Ytbeoedgoikcbpaa
namespace Go.Proofs.Ytbeoedgoikcbpaa
set_option linter.unusedSimpArgs false
set_option linter.unusedVariables false
set_option maxRecDepth 100000
open Go Go.Ann Go.RowKit Go.Shelf
def numL (s : List Int) (o : OpT) : Option (List Int × Int) := match s with | [x] => numP x o | _ => none
theorem numL_not {s : List Int} {o : OpT} (h : ∀ x, s = [x] → False) : numL s o = none := by
  unfold numL
  split
  · exact absurd rfl (h _)
  · rfl
def doP (s : List Int) (o : OpT) : Option (List Int × Int) :=
  if o.Kind = 1 ∨ o.Kind = 2 then numL s o
  else if o.Kind = 3 ∨ o.Kind = 4 then listP s o
  else if o.Kind = 5 then setP s o
  else if o.Kind = 6 then (if o.Method = 13 ∧ s = [] then some ([o.Proc], 0) else if o.Method = 14 ∧ s = [o.Proc] then some ([], 0) else none)
  else none
/-- A step: behind an operation that has its answer, or none yet. -/
def stepP (s : List Int) (o : OpT) : Option (List Int) :=
  match doP s o with
  | some (t, n) => if o.Done = true ∧ n ≠ o.Result then none else some t
  | none => none
/-- What Do hands back: a state of its own. -/
def StepF (w w' : World) (r : Option (List Int × Int)) (t : Value) : Prop :=
  ∃ u a ok, t = .tuple #[u, .int .i64 a, .bool ok] ∧ match r with
    | none => ok = false
    | some (s, n) => ok = true ∧ a = n ∧ RdS w' 1 intE u s ∧ ∀ k, slFoot u k → w.heap.size ≤ k
theorem StepR.fresh {w w2 w3 : World} {v t : Value} {r : Option (List Int × Int)} (h : StepR w2 w3 v r t) (hv : ∀ k, v.ownBlock = some k → w.heap.size ≤ k) (hs : w.heap.size ≤ w2.heap.size) : StepF w w3 r t := by
  obtain ⟨u, a, ok, e, hm⟩ := h
  refine ⟨u, a, ok, e, ?_⟩
  cases r with
  | none => exact hm
  | some p =>
    obtain ⟨s, n⟩ := p
    obtain ⟨h1, h2, h3, h4⟩ := hm
    exact ⟨h1, h2, h3, fun k hk => (h4 k hk).elim (hv k) fun h => Nat.le_trans hs h⟩
theorem do_ok (v : Value) (s : List Int) (o : OpT) (w : World) (h : RdS w 1 intE v s) (hl : s.length ≤ 1000000) (hs : o.Kind = 5 → s.Pairwise (· < ·)) :
    Ret Try.prog 66 [v, .agg o.enc.toArray] w fun u w' => StepF w w' (doP s o) u ∧ Below w.heap.size w w' := by
  refine ent66 _ _ _ _ ?_
  have ho := o.at
  have hw1 : Below w.heap.size w (w.alloc (.cells o.enc.toArray 58)) := (Below.refl _ w).alloc (Nat.le_refl _) _
  simp (disch := first | omega | exact okFill_t rfl | exact okSize_t rfl | exact fun h => h | (simp only [World.size_alloc, World.size_drew, World.size_setCell, size_fill, bytesW]; omega)) only [go_sem, ↓reduceIte, reduceCtorEq, Nat.reduceBEq, Nat.reduceEqDiff, Nat.reduceAdd, Nat.reduceMul, Int.reduceNe, Int.reduceEq, Int.reduceLT, Int.reduceLE, Int.reduceNeg, Int.reduceAdd, Int.reduceSub, Int.reduceMul, Int.reduceToNat, beq_self_eq_true, c66, c66S0, c66S1, c66S2, c66S3, c66S4, c66S5, c66S6, c66S7]
  refine Ret.mono (iclone_ok v s _ (h.below hw1 (by decide)) hl) ?_
  rintro u w2 ⟨own2, b2⟩
  have bb := Below.next hw1 b2
  have hB2 : Blk w2 w.heap.size o.enc.toArray 58 := Blk.new.below b2 Blk.new.lt
  have r2 := hB2.rules
  have hl11 : okSize o.enc.toArray 11 = true := rfl
  obtain ⟨a, c, rfl, hac⟩ := own_slice own2
  have rd2 : RdS w2 1 intE (.slice a s.length c) s := RdS.of_own' own2 s rfl rfl
  have lt2 : ∀ k, (Value.slice a s.length c).ownBlock = some k → w.heap.size ≤ k := fun k hk => by
    have := (World.ownsRow.lt own2 k hk).1
    simp only [World.size_alloc] at this; omega
  have hsz1 : w.heap.size + 1 ≤ w2.heap.size := by have := b2.size; simpa using this
  have chg : ∀ {w' : World}, Chg (fun k => (Value.slice a s.length c).ownBlock = some k) w2 w' → Below w.heap.size w w' := fun hc => bb.trans (hc.below bb.size fun k hk e => by have := lt2 k e; omega)
  have bad : ∀ {u : Value} {n : Int}, doP s o = none → StepF w w2 (doP s o) (.tuple #[u, .int .i64 n, .bool false]) := fun e => ⟨_, _, _, rfl, by rw [e]⟩
  have number : o.Kind = 1 ∨ o.Kind = 2 → (∀ x, s = [x] → False) ∨ ∃ x, s = [x] := fun _ => by
    cases s with
    | nil => exact .inl fun x e => by cases e
    | cons x r => cases r with
      | nil => exact .inr ⟨x, rfl⟩
      | cons y r => exact .inl fun x e => by cases e
  have hd1 : o.Kind = 1 ∨ o.Kind = 2 → doP s o = numL s o := fun e => by unfold doP; rw [if_pos e]
  by_cases k1 : o.Kind = 1
  · simp (disch := first | omega | exact okFill_t rfl | exact okSize_t rfl | exact fun h => h | (simp only [World.size_alloc, World.size_drew, World.size_setCell, size_fill, bytesW]; omega)) only [go_sem, ↓reduceIte, reduceCtorEq, Nat.reduceBEq, Nat.reduceEqDiff, Nat.reduceAdd, Nat.reduceMul, Int.reduceNe, Int.reduceEq, Int.reduceLT, Int.reduceLE, Int.reduceNeg, Int.reduceAdd, Int.reduceSub, Int.reduceMul, Int.reduceToNat, beq_self_eq_true, c66, c66S0, c66S1, c66S2, c66S3, c66S4, c66S5, c66S6, c66S7, c66S8, r2, ho, k1]
    rcases number (.inl k1) with hn | ⟨x, rfl⟩
    · have hne : (s.length : Int) ≠ 1 := fun e => by
        obtain ⟨x, hx⟩ := List.length_eq_one_iff.1 (show s.length = 1 by omega)
        exact hn x hx
      refine ⟨fun _ => ⟨bad ?_, bb⟩, fun e => absurd e hne⟩
      rw [hd1 (.inl k1), numL_not hn]
    · refine ⟨fun e => absurd rfl e, fun _ => ?_⟩
      simp (disch := first | omega | exact okFill_t rfl | exact okSize_t rfl | exact fun h => h | (simp only [World.size_alloc, World.size_drew, World.size_setCell, size_fill, bytesW]; omega)) only [go_sem, ↓reduceIte, reduceCtorEq, Nat.reduceBEq, Nat.reduceEqDiff, Nat.reduceAdd, Nat.reduceMul, Int.reduceNe, Int.reduceEq, Int.reduceLT, Int.reduceLE, Int.reduceNeg, Int.reduceAdd, Int.reduceSub, Int.reduceMul, Int.reduceToNat, beq_self_eq_true, c66, c66S0, c66S1, c66S2, c66S3, c66S4, c66S5, c66S6, c66S7, c66S8, r2]
      refine Ret.mono (number_ok _ x o w2 rd2) ?_
      rintro _ w3 ⟨h3, b3⟩
      have h3' := StepR.fresh h3 lt2 (by omega)
      obtain ⟨u3, a3, ok3, rfl, hm⟩ := h3
      simp (disch := first | omega | exact okFill_t rfl | exact okSize_t rfl | exact fun h => h | (simp only [World.size_alloc, World.size_drew, World.size_setCell, size_fill, bytesW]; omega)) only [go_sem, ↓reduceIte, reduceCtorEq, Nat.reduceBEq, Nat.reduceEqDiff, Nat.reduceAdd, Nat.reduceMul, Int.reduceNe, Int.reduceEq, Int.reduceLT, Int.reduceLE, Int.reduceNeg, Int.reduceAdd, Int.reduceSub, Int.reduceMul, Int.reduceToNat, beq_self_eq_true, c66, c66S0, c66S1, c66S2, c66S3, c66S4, c66S5, c66S6, c66S7, c66S8]
      rw [hd1 (.inl k1)]
      exact ⟨h3', Below.next bb b3⟩
  by_cases k2 : o.Kind = 2
  · simp (disch := first | omega | exact okFill_t rfl | exact okSize_t rfl | exact fun h => h | (simp only [World.size_alloc, World.size_drew, World.size_setCell, size_fill, bytesW]; omega)) only [go_sem, ↓reduceIte, reduceCtorEq, Nat.reduceBEq, Nat.reduceEqDiff, Nat.reduceAdd, Nat.reduceMul, Int.reduceNe, Int.reduceEq, Int.reduceLT, Int.reduceLE, Int.reduceNeg, Int.reduceAdd, Int.reduceSub, Int.reduceMul, Int.reduceToNat, beq_self_eq_true, c66, c66S0, c66S1, c66S2, c66S3, c66S4, c66S5, c66S6, c66S7, c66S8, r2, ho, k2]
    rcases number (.inr k2) with hn | ⟨x, rfl⟩
    · have hne : (s.length : Int) ≠ 1 := fun e => by
        obtain ⟨x, hx⟩ := List.length_eq_one_iff.1 (show s.length = 1 by omega)
        exact hn x hx
      refine ⟨fun _ => ⟨bad ?_, bb⟩, fun e => absurd e hne⟩
      rw [hd1 (.inr k2), numL_not hn]
    · refine ⟨fun e => absurd rfl e, fun _ => ?_⟩
      simp (disch := first | omega | exact okFill_t rfl | exact okSize_t rfl | exact fun h => h | (simp only [World.size_alloc, World.size_drew, World.size_setCell, size_fill, bytesW]; omega)) only [go_sem, ↓reduceIte, reduceCtorEq, Nat.reduceBEq, Nat.reduceEqDiff, Nat.reduceAdd, Nat.reduceMul, Int.reduceNe, Int.reduceEq, Int.reduceLT, Int.reduceLE, Int.reduceNeg, Int.reduceAdd, Int.reduceSub, Int.reduceMul, Int.reduceToNat, beq_self_eq_true, c66, c66S0, c66S1, c66S2, c66S3, c66S4, c66S5, c66S6, c66S7, c66S8, r2]
      refine Ret.mono (number_ok _ x o w2 rd2) ?_
      rintro _ w3 ⟨h3, b3⟩
      have h3' := StepR.fresh h3 lt2 (by omega)
      obtain ⟨u3, a3, ok3, rfl, hm⟩ := h3
      simp (disch := first | omega | exact okFill_t rfl | exact okSize_t rfl | exact fun h => h | (simp only [World.size_alloc, World.size_drew, World.size_setCell, size_fill, bytesW]; omega)) only [go_sem, ↓reduceIte, reduceCtorEq, Nat.reduceBEq, Nat.reduceEqDiff, Nat.reduceAdd, Nat.reduceMul, Int.reduceNe, Int.reduceEq, Int.reduceLT, Int.reduceLE, Int.reduceNeg, Int.reduceAdd, Int.reduceSub, Int.reduceMul, Int.reduceToNat, beq_self_eq_true, c66, c66S0, c66S1, c66S2, c66S3, c66S4, c66S5, c66S6, c66S7, c66S8]
      rw [hd1 (.inr k2)]
      exact ⟨h3', Below.next bb b3⟩
  have hb1 : (w.alloc (.cells o.enc.toArray 58)).heap.size ≤ w2.heap.size := b2.size
  by_cases k3 : o.Kind = 3
  · have hd : doP s o = listP s o := by unfold doP; rw [if_neg (by simp [k1, k2]), if_pos (.inl k3)]
    simp (disch := first | omega | exact okFill_t rfl | exact okSize_t rfl | exact fun h => h | (simp only [World.size_alloc, World.size_drew, World.size_setCell, size_fill, bytesW]; omega)) only [go_sem, ↓reduceIte, reduceCtorEq, Nat.reduceBEq, Nat.reduceEqDiff, Nat.reduceAdd, Nat.reduceMul, Int.reduceNe, Int.reduceEq, Int.reduceLT, Int.reduceLE, Int.reduceNeg, Int.reduceAdd, Int.reduceSub, Int.reduceMul, Int.reduceToNat, beq_self_eq_true, c66, c66S0, c66S1, c66S2, c66S3, c66S4, c66S5, c66S6, c66S7, c66S8, r2, ho, k3]
    refine Ret.mono (list_ok _ s o w2 _ hb1 own2 hl) ?_
    rintro _ w3 ⟨h3, c3⟩
    have h3' := StepR.fresh h3 lt2 (by omega)
    obtain ⟨u3, a3, ok3, rfl, hm⟩ := h3
    simp (disch := first | omega | exact okFill_t rfl | exact okSize_t rfl | exact fun h => h | (simp only [World.size_alloc, World.size_drew, World.size_setCell, size_fill, bytesW]; omega)) only [go_sem, ↓reduceIte, reduceCtorEq, Nat.reduceBEq, Nat.reduceEqDiff, Nat.reduceAdd, Nat.reduceMul, Int.reduceNe, Int.reduceEq, Int.reduceLT, Int.reduceLE, Int.reduceNeg, Int.reduceAdd, Int.reduceSub, Int.reduceMul, Int.reduceToNat, beq_self_eq_true, c66, c66S0, c66S1, c66S2, c66S3, c66S4, c66S5, c66S6, c66S7, c66S8]
    rw [hd]
    exact ⟨h3', chg c3⟩
  by_cases k4 : o.Kind = 4
  · have hd : doP s o = listP s o := by unfold doP; rw [if_neg (by simp [k1, k2]), if_pos (.inr k4)]
    simp (disch := first | omega | exact okFill_t rfl | exact okSize_t rfl | exact fun h => h | (simp only [World.size_alloc, World.size_drew, World.size_setCell, size_fill, bytesW]; omega)) only [go_sem, ↓reduceIte, reduceCtorEq, Nat.reduceBEq, Nat.reduceEqDiff, Nat.reduceAdd, Nat.reduceMul, Int.reduceNe, Int.reduceEq, Int.reduceLT, Int.reduceLE, Int.reduceNeg, Int.reduceAdd, Int.reduceSub, Int.reduceMul, Int.reduceToNat, beq_self_eq_true, c66, c66S0, c66S1, c66S2, c66S3, c66S4, c66S5, c66S6, c66S7, c66S8, r2, ho, k4]
    refine Ret.mono (list_ok _ s o w2 _ hb1 own2 hl) ?_
    rintro _ w3 ⟨h3, c3⟩
    have h3' := StepR.fresh h3 lt2 (by omega)
    obtain ⟨u3, a3, ok3, rfl, hm⟩ := h3
    simp (disch := first | omega | exact okFill_t rfl | exact okSize_t rfl | exact fun h => h | (simp only [World.size_alloc, World.size_drew, World.size_setCell, size_fill, bytesW]; omega)) only [go_sem, ↓reduceIte, reduceCtorEq, Nat.reduceBEq, Nat.reduceEqDiff, Nat.reduceAdd, Nat.reduceMul, Int.reduceNe, Int.reduceEq, Int.reduceLT, Int.reduceLE, Int.reduceNeg, Int.reduceAdd, Int.reduceSub, Int.reduceMul, Int.reduceToNat, beq_self_eq_true, c66, c66S0, c66S1, c66S2, c66S3, c66S4, c66S5, c66S6, c66S7, c66S8]
    rw [hd]
    exact ⟨h3', chg c3⟩
  by_cases k5 : o.Kind = 5
  · have hd : doP s o = setP s o := by unfold doP; rw [if_neg (by simp [k1, k2]), if_neg (by simp [k3, k4]), if_pos k5]
    simp (disch := first | omega | exact okFill_t rfl | exact okSize_t rfl | exact fun h => h | (simp only [World.size_alloc, World.size_drew, World.size_setCell, size_fill, bytesW]; omega)) only [go_sem, ↓reduceIte, reduceCtorEq, Nat.reduceBEq, Nat.reduceEqDiff, Nat.reduceAdd, Nat.reduceMul, Int.reduceNe, Int.reduceEq, Int.reduceLT, Int.reduceLE, Int.reduceNeg, Int.reduceAdd, Int.reduceSub, Int.reduceMul, Int.reduceToNat, beq_self_eq_true, c66, c66S0, c66S1, c66S2, c66S3, c66S4, c66S5, c66S6, c66S7, c66S8, r2, ho, k5]
    refine Ret.mono (set_ok _ s o w2 _ hb1 own2 hl (hs k5)) ?_
    rintro _ w3 ⟨h3, c3⟩
    have h3' := StepR.fresh h3 lt2 (by omega)
    obtain ⟨u3, a3, ok3, rfl, hm⟩ := h3
    simp (disch := first | omega | exact okFill_t rfl | exact okSize_t rfl | exact fun h => h | (simp only [World.size_alloc, World.size_drew, World.size_setCell, size_fill, bytesW]; omega)) only [go_sem, ↓reduceIte, reduceCtorEq, Nat.reduceBEq, Nat.reduceEqDiff, Nat.reduceAdd, Nat.reduceMul, Int.reduceNe, Int.reduceEq, Int.reduceLT, Int.reduceLE, Int.reduceNeg, Int.reduceAdd, Int.reduceSub, Int.reduceMul, Int.reduceToNat, beq_self_eq_true, c66, c66S0, c66S1, c66S2, c66S3, c66S4, c66S5, c66S6, c66S7, c66S8]
    rw [hd]
    exact ⟨h3', chg c3⟩
  by_cases k6 : o.Kind = 6
  · have hd : doP s o = (if o.Method = 13 ∧ s = [] then some ([o.Proc], 0) else if o.Method = 14 ∧ s = [o.Proc] then some ([], 0) else none) := by unfold doP; rw [if_neg (by simp [k1, k2]), if_neg (by simp [k3, k4]), if_neg k5, if_pos k6]
    have rdd := hB2.drew.rules
    have bbd : Below w.heap.size w w2.drew := bb.drew
    have rd2d : RdS w2.drew 1 intE (.slice a s.length c) s := rd2.below (Below.refl _ w2).drew (by decide)
    have fresh : ∀ {k n c'}, slFoot (.slice (some ⟨w2.heap.size, 0, none⟩) n c') k → w.heap.size ≤ k := fun hk => by
      have := slFoot_own hk
      simp only [Value.ownBlock, Option.some.injEq] at this
      omega
    have badd : ∀ {u : Value} {n : Int}, doP s o = none → StepF w w2.drew (doP s o) (.tuple #[u, .int .i64 n, .bool false]) := fun e => ⟨_, _, _, rfl, by rw [e]⟩
    by_cases m13 : o.Method = 13
    · simp (disch := first | omega | exact okFill_t rfl | exact okSize_t rfl | exact fun h => h | (simp only [World.size_alloc, World.size_drew, World.size_setCell, size_fill, bytesW]; omega)) only [go_sem, ↓reduceIte, reduceCtorEq, Nat.reduceBEq, Nat.reduceEqDiff, Nat.reduceAdd, Nat.reduceMul, Int.reduceNe, Int.reduceEq, Int.reduceLT, Int.reduceLE, Int.reduceNeg, Int.reduceAdd, Int.reduceSub, Int.reduceMul, Int.reduceToNat, beq_self_eq_true, c66, c66S0, c66S1, c66S2, c66S3, c66S4, c66S5, c66S6, c66S7, c66S8, r2, ho, k6, m13]
      refine ⟨fun h0 => ?_, fun h0 => ?_⟩
      · obtain rfl : s = [] := List.eq_nil_of_length_eq_zero (by omega)
        refine bsW_ones ty36mkI rfl rfl (by decide) (by decide) (intE_one _) ?_
        simp (disch := first | omega | exact okFill_t rfl | exact okSize_t rfl | exact fun h => h | (simp only [World.size_alloc, World.size_drew, World.size_setCell, size_fill, bytesW]; omega)) only [go_sem, ↓reduceIte, reduceCtorEq, Nat.reduceBEq, Nat.reduceEqDiff, Nat.reduceAdd, Nat.reduceMul, Int.reduceNe, Int.reduceEq, Int.reduceLT, Int.reduceLE, Int.reduceNeg, Int.reduceAdd, Int.reduceSub, Int.reduceMul, Int.reduceToNat, beq_self_eq_true, c66, c66S0, c66S1, c66S2, c66S3, c66S4, c66S5, c66S6, c66S7, c66S8]
        refine ⟨⟨_, _, _, rfl, ?_⟩, Below.next bb ((Below.refl _ _).alloc (Nat.le_refl _) _)⟩
        rw [hd, if_pos ⟨m13, rfl⟩]
        exact ⟨rfl, rfl, int_new o.Proc rfl, fun k hk => fresh hk⟩
      · refine c66draw0 ?_
        simp (disch := first | omega | exact okFill_t rfl | exact okSize_t rfl | exact fun h => h | (simp only [World.size_alloc, World.size_drew, World.size_setCell, size_fill, bytesW]; omega)) only [go_sem, ↓reduceIte, reduceCtorEq, Nat.reduceBEq, Nat.reduceEqDiff, Nat.reduceAdd, Nat.reduceMul, Int.reduceNe, Int.reduceEq, Int.reduceLT, Int.reduceLE, Int.reduceNeg, Int.reduceAdd, Int.reduceSub, Int.reduceMul, Int.reduceToNat, beq_self_eq_true, c66, c66S0, c66S1, c66S2, c66S3, c66S4, c66S5, c66S6, c66S7, c66S8, c66D0, rdd, ho, m13]
        have : s ≠ [] := fun e => h0 (by rw [e]; rfl)
        exact ⟨badd (by rw [hd]; simp [this, m13]), bbd⟩
    · simp (disch := first | omega | exact okFill_t rfl | exact okSize_t rfl | exact fun h => h | (simp only [World.size_alloc, World.size_drew, World.size_setCell, size_fill, bytesW]; omega)) only [go_sem, ↓reduceIte, reduceCtorEq, Nat.reduceBEq, Nat.reduceEqDiff, Nat.reduceAdd, Nat.reduceMul, Int.reduceNe, Int.reduceEq, Int.reduceLT, Int.reduceLE, Int.reduceNeg, Int.reduceAdd, Int.reduceSub, Int.reduceMul, Int.reduceToNat, beq_self_eq_true, c66, c66S0, c66S1, c66S2, c66S3, c66S4, c66S5, c66S6, c66S7, c66S8, r2, ho, k6, m13]
      refine c66draw0 ?_
      by_cases m14 : o.Method = 14
      · simp (disch := first | omega | exact okFill_t rfl | exact okSize_t rfl | exact fun h => h | (simp only [World.size_alloc, World.size_drew, World.size_setCell, size_fill, bytesW]; omega)) only [go_sem, ↓reduceIte, reduceCtorEq, Nat.reduceBEq, Nat.reduceEqDiff, Nat.reduceAdd, Nat.reduceMul, Int.reduceNe, Int.reduceEq, Int.reduceLT, Int.reduceLE, Int.reduceNeg, Int.reduceAdd, Int.reduceSub, Int.reduceMul, Int.reduceToNat, beq_self_eq_true, c66, c66S0, c66S1, c66S2, c66S3, c66S4, c66S5, c66S6, c66S7, c66S8, c66D0, rdd, ho, m14]
        refine ⟨fun h1 => ?_, fun h1 => ?_⟩
        · obtain ⟨x, rfl⟩ := List.length_eq_one_iff.1 (show s.length = 1 by omega)
          obtain ⟨p, rfl⟩ := rd2d.ptr (by simp)
          have ep := RdS.int rd2d (k := 0) (by simp)
          rw [show p.add 0 = p from rfl, show ([x] : List Int)[0] = x from rfl] at ep
          simp (disch := first | omega | exact okFill_t rfl | exact okSize_t rfl | exact fun h => h | (simp only [World.size_alloc, World.size_drew, World.size_setCell, size_fill, bytesW]; omega)) only [go_sem, ↓reduceIte, reduceCtorEq, Nat.reduceBEq, Nat.reduceEqDiff, Nat.reduceAdd, Nat.reduceMul, Int.reduceNe, Int.reduceEq, Int.reduceLT, Int.reduceLE, Int.reduceNeg, Int.reduceAdd, Int.reduceSub, Int.reduceMul, Int.reduceToNat, beq_self_eq_true, c66, c66S0, c66S1, c66S2, c66S3, c66S4, c66S5, c66S6, c66S7, c66S8, c66D0, rdd, ho, ep]
          refine ⟨fun e => ⟨⟨_, _, _, rfl, ?_⟩, bbd⟩, fun e => ⟨badd ?_, bbd⟩⟩
          · rw [hd, if_neg (by simp), if_pos ⟨m14, by rw [e]⟩]
            exact ⟨rfl, rfl, RdS.nil, fun k hk => absurd hk slFoot_none⟩
          · rw [hd, if_neg (by simp), if_neg (by simp [e])]
        · have : s ≠ [o.Proc] := fun e => h1 (by rw [e]; rfl)
          exact ⟨badd (by rw [hd]; simp [m13, this]), bbd⟩
      · simp (disch := first | omega | exact okFill_t rfl | exact okSize_t rfl | exact fun h => h | (simp only [World.size_alloc, World.size_drew, World.size_setCell, size_fill, bytesW]; omega)) only [go_sem, ↓reduceIte, reduceCtorEq, Nat.reduceBEq, Nat.reduceEqDiff, Nat.reduceAdd, Nat.reduceMul, Int.reduceNe, Int.reduceEq, Int.reduceLT, Int.reduceLE, Int.reduceNeg, Int.reduceAdd, Int.reduceSub, Int.reduceMul, Int.reduceToNat, beq_self_eq_true, c66, c66S0, c66S1, c66S2, c66S3, c66S4, c66S5, c66S6, c66S7, c66S8, c66D0, rdd, ho, m14]
        exact ⟨badd (by rw [hd]; simp [m13, m14]), bbd⟩
  · have hd : doP s o = none := by unfold doP; rw [if_neg (by simp [k1, k2]), if_neg (by simp [k3, k4]), if_neg k5, if_neg k6]
    simp (disch := first | omega | exact okFill_t rfl | exact okSize_t rfl | exact fun h => h | (simp only [World.size_alloc, World.size_drew, World.size_setCell, size_fill, bytesW]; omega)) only [go_sem, ↓reduceIte, reduceCtorEq, Nat.reduceBEq, Nat.reduceEqDiff, Nat.reduceAdd, Nat.reduceMul, Int.reduceNe, Int.reduceEq, Int.reduceLT, Int.reduceLE, Int.reduceNeg, Int.reduceAdd, Int.reduceSub, Int.reduceMul, Int.reduceToNat, beq_self_eq_true, c66, c66S0, c66S1, c66S2, c66S3, c66S4, c66S5, c66S6, c66S7, c66S8, r2, ho, k1, k2, k3, k4, k5, k6]
    exact ⟨bad hd, bb⟩
theorem step_ok (v : Value) (s : List Int) (o : OpT) (w : World) (h : RdS w 1 intE v s) (hl : s.length ≤ 1000000) (hs : o.Kind = 5 → s.Pairwise (· < ·)) :
    Ret Try.prog 33 [v, .agg o.enc.toArray] w fun u w' => (∃ t ok, u = .tuple #[t, .bool ok] ∧ match stepP s o with
      | none => ok = false
      | some s' => ok = true ∧ RdS w' 1 intE t s' ∧ ∀ k, slFoot t k → w.heap.size ≤ k) ∧ Below w.heap.size w w' := by
  refine ent33 _ _ _ _ ?_
  have ho := o.at
  have hw1 : Below w.heap.size w (w.alloc (.cells o.enc.toArray 58)) := (Below.refl _ w).alloc (Nat.le_refl _) _
  simp (disch := first | omega | exact okFill_t rfl | exact okSize_t rfl | exact fun h => h | (simp only [World.size_alloc, World.size_drew, World.size_setCell, size_fill, bytesW]; omega)) only [go_sem, ↓reduceIte, reduceCtorEq, Nat.reduceBEq, Nat.reduceEqDiff, Nat.reduceAdd, Nat.reduceMul, Int.reduceNe, Int.reduceEq, Int.reduceLT, Int.reduceLE, Int.reduceNeg, Int.reduceAdd, Int.reduceSub, Int.reduceMul, Int.reduceToNat, beq_self_eq_true, c33, c33S0]
  refine Ret.mono (do_ok v s o _ (h.below hw1 (by decide)) hl hs) ?_
  rintro _ w2 ⟨⟨t, a, ok, rfl, hm⟩, b2⟩
  have bb := Below.next hw1 b2
  have hB2 : Blk w2 w.heap.size o.enc.toArray 58 := Blk.new.below b2 Blk.new.lt
  have r2 := hB2.rules
  cases hd : doP s o with
  | none =>
    rw [hd] at hm
    subst hm
    have e : stepP s o = none := by unfold stepP; rw [hd]
    simp (disch := first | omega | exact okFill_t rfl | exact okSize_t rfl | exact fun h => h | (simp only [World.size_alloc, World.size_drew, World.size_setCell, size_fill, bytesW]; omega)) only [go_sem, ↓reduceIte, reduceCtorEq, Nat.reduceBEq, Nat.reduceEqDiff, Nat.reduceAdd, Nat.reduceMul, Int.reduceNe, Int.reduceEq, Int.reduceLT, Int.reduceLE, Int.reduceNeg, Int.reduceAdd, Int.reduceSub, Int.reduceMul, Int.reduceToNat, beq_self_eq_true, c33, c33S0, c33S1, r2, ho]
    exact ⟨⟨_, _, rfl, by rw [e]⟩, bb⟩
  | some p =>
    obtain ⟨s', n⟩ := p
    rw [hd] at hm
    obtain ⟨rfl, rfl, h3, f3⟩ := hm
    have f3' : ∀ k, slFoot t k → w.heap.size ≤ k := fun k hk => by have := f3 k hk; simp only [World.size_alloc] at this; omega
    obtain ⟨ta, tc, rfl, _⟩ := h3.form
    cases hdn : o.Done with
    | false =>
      have e : stepP s o = some s' := by unfold stepP; rw [hd]; simp [hdn]
      simp (disch := first | omega | exact okFill_t rfl | exact okSize_t rfl | exact fun h => h | (simp only [World.size_alloc, World.size_drew, World.size_setCell, size_fill, bytesW]; omega)) only [go_sem, ↓reduceIte, reduceCtorEq, Nat.reduceBEq, Nat.reduceEqDiff, Nat.reduceAdd, Nat.reduceMul, Int.reduceNe, Int.reduceEq, Int.reduceLT, Int.reduceLE, Int.reduceNeg, Int.reduceAdd, Int.reduceSub, Int.reduceMul, Int.reduceToNat, beq_self_eq_true, c33, c33S0, c33S1, r2, ho, hdn]
      exact ⟨⟨_, _, rfl, by rw [e]; exact ⟨rfl, h3, f3'⟩⟩, bb⟩
    | true =>
      simp (disch := first | omega | exact okFill_t rfl | exact okSize_t rfl | exact fun h => h | (simp only [World.size_alloc, World.size_drew, World.size_setCell, size_fill, bytesW]; omega)) only [go_sem, ↓reduceIte, reduceCtorEq, Nat.reduceBEq, Nat.reduceEqDiff, Nat.reduceAdd, Nat.reduceMul, Int.reduceNe, Int.reduceEq, Int.reduceLT, Int.reduceLE, Int.reduceNeg, Int.reduceAdd, Int.reduceSub, Int.reduceMul, Int.reduceToNat, beq_self_eq_true, c33, c33S0, c33S1, r2, ho, hdn]
      refine ⟨fun hne => ⟨⟨_, _, rfl, ?_⟩, bb⟩, fun heq => ⟨⟨_, _, rfl, ?_⟩, bb⟩⟩
      · rw [show stepP s o = none by unfold stepP; rw [hd]; simp [hdn, hne]]
      · rw [show stepP s o = some s' by unfold stepP; rw [hd]; simp [hdn, heq]]
        exact ⟨rfl, h3, f3'⟩
end Go.Proofs.Ytbeoedgoikcbpaa
namespace Go.Proofs.Ytbeoedgoikcbpaa
set_option linter.unusedSimpArgs false
set_option linter.unusedVariables false
set_option maxRecDepth 100000
open Go Go.Ann Go.RowKit
def before (a b : OpT) : Bool := a.Done && decide (a.Return < b.Invoke)
theorem rbefore_ok (a b : OpT) (w : World) : Ret Try.prog 53 [.agg a.enc.toArray, .agg b.enc.toArray] w fun v w' => v = .bool (before a b) ∧ Below w.heap.size w w' := by
  refine ent53 _ _ _ _ ?_
  have ha := a.at; have hb := b.at
  simp (disch := first | omega | exact okFill_t rfl | exact okSize_t rfl | exact fun h => h | (simp only [World.size_alloc, World.size_drew, World.size_setCell, size_fill, bytesW]; omega)) only [go_sem, ↓reduceIte, reduceCtorEq, Nat.reduceBEq, Nat.reduceEqDiff, Nat.reduceAdd, Nat.reduceMul, Int.reduceNe, Int.reduceEq, Int.reduceLT, Int.reduceLE, Int.reduceNeg, Int.reduceAdd, Int.reduceSub, Int.reduceMul, Int.reduceToNat, beq_self_eq_true, c53, ha, hb]
  unfold before
  refine ⟨fun h => ?_, fun h => ?_⟩
  · rw [h]; exact ⟨by simp, by (repeat' (first | with_reducible exact Below.refl _ _ | with_reducible assumption | (with_reducible refine Below.drew ?_) | (with_reducible refine Below.alloc ?_ ?_ _) | (with_reducible refine Below.setCell ?_ ?_ _) | (with_reducible refine Below.fill ?_ ?_) | (with_reducible refine Below.via (by assumption) ?_ ?_) | omega | (simp only [World.size_alloc, World.size_drew, World.size_setCell, size_fill, bytesW]; omega)))⟩
  · rw [h]; exact ⟨by simp, by (repeat' (first | with_reducible exact Below.refl _ _ | with_reducible assumption | (with_reducible refine Below.drew ?_) | (with_reducible refine Below.alloc ?_ ?_ _) | (with_reducible refine Below.setCell ?_ ?_ _) | (with_reducible refine Below.fill ?_ ?_) | (with_reducible refine Below.via (by assumption) ?_ ?_) | omega | (simp only [World.size_alloc, World.size_drew, World.size_setCell, size_fill, bytesW]; omega)))⟩
theorem before_ok (a b : OpT) (w : World) : Ret Try.prog 65 [.agg a.enc.toArray, .agg b.enc.toArray] w fun v w' => v = .bool (before a b) ∧ Below w.heap.size w w' := by
  refine ent65 _ _ _ _ ?_
  have ha := a.at; have hb := b.at
  simp (disch := first | omega | exact okFill_t rfl | exact okSize_t rfl | exact fun h => h | (simp only [World.size_alloc, World.size_drew, World.size_setCell, size_fill, bytesW]; omega)) only [go_sem, ↓reduceIte, reduceCtorEq, Nat.reduceBEq, Nat.reduceEqDiff, Nat.reduceAdd, Nat.reduceMul, Int.reduceNe, Int.reduceEq, Int.reduceLT, Int.reduceLE, Int.reduceNeg, Int.reduceAdd, Int.reduceSub, Int.reduceMul, Int.reduceToNat, beq_self_eq_true, c65, ha, hb]
  unfold before
  refine ⟨fun h => ?_, fun h => ?_⟩
  · rw [h]; exact ⟨by simp, by (repeat' (first | with_reducible exact Below.refl _ _ | with_reducible assumption | (with_reducible refine Below.drew ?_) | (with_reducible refine Below.alloc ?_ ?_ _) | (with_reducible refine Below.setCell ?_ ?_ _) | (with_reducible refine Below.fill ?_ ?_) | (with_reducible refine Below.via (by assumption) ?_ ?_) | omega | (simp only [World.size_alloc, World.size_drew, World.size_setCell, size_fill, bytesW]; omega)))⟩
  · rw [h]; exact ⟨by simp, by (repeat' (first | with_reducible exact Below.refl _ _ | with_reducible assumption | (with_reducible refine Below.drew ?_) | (with_reducible refine Below.alloc ?_ ?_ _) | (with_reducible refine Below.setCell ?_ ?_ _) | (with_reducible refine Below.fill ?_ ?_) | (with_reducible refine Below.via (by assumption) ?_ ?_) | omega | (simp only [World.size_alloc, World.size_drew, World.size_setCell, size_fill, bytesW]; omega)))⟩
end Go.Proofs.Ytbeoedgoikcbpaa
namespace Go.Proofs.Ytbeoedgoikcbpaa
set_option linter.unusedSimpArgs false
set_option linter.unusedVariables false
set_option maxRecDepth 100000
open Go Go.Ann Go.RowKit
def maskN : List Bool → Nat
  | [] => 0
  | b :: l => b.toNat + 2 * maskN l
theorem maskN_bit : ∀ (l : List Bool) (i : Nat), (maskN l).testBit i = l.getD i false
  | [], i => by simp [maskN]
  | b :: l, 0 => by
    rw [maskN, Nat.testBit_zero]
    cases b <;> simp [Nat.add_mod]
  | b :: l, i + 1 => by
    rw [maskN, Nat.testBit_succ, show (b.toNat + 2 * maskN l) / 2 = maskN l by cases b <;> simp <;> omega, maskN_bit l i]
    rfl
theorem maskN_lt : ∀ l : List Bool, maskN l < 2 ^ l.length
  | [] => by simp [maskN]
  | b :: l => by
    have := maskN_lt l
    rw [maskN, List.length_cons, Nat.pow_succ]
    cases b <;> simp <;> omega
theorem maskN_inj : ∀ {a b : List Bool}, a.length = b.length → maskN a = maskN b → a = b
  | [], [], _, _ => rfl
  | x :: a, y :: b, hl, h => by
    simp only [maskN] at h
    have h1 : x = y := by cases x <;> cases y <;> simp at h ⊢ <;> omega
    subst h1
    rw [maskN_inj (a := a) (b := b) (by simpa using hl) (by omega)]
theorem maskN_none (n : Nat) : maskN (List.replicate n false) = 0 := by
  induction n with
  | zero => rfl
  | succ n ih => rw [List.replicate_succ, maskN, ih]; rfl
theorem maskN_app : ∀ (l : List Bool) (b : Bool), maskN (l ++ [b]) = maskN l + 2 ^ l.length * b.toNat
  | [], b => by simp [maskN]
  | x :: l, b => by
    rw [List.cons_append, maskN, maskN, maskN_app l b, List.length_cons, Nat.pow_succ, Nat.mul_add, Nat.add_assoc]
    congr 2
    rw [← Nat.mul_assoc, Nat.mul_comm 2 (2 ^ l.length)]
theorem getD_set (l : List Bool) (i j : Nat) : (l.set i true).getD j false = (l.getD j false || (decide (i = j) && decide (i < l.length))) := by
  simp only [List.getD_eq_getElem?_getD, List.getElem?_set]
  by_cases h : i = j
  · subst h
    by_cases hl : i < l.length
    · simp [hl]
    · simp [hl]
  · simp [h]
theorem maskN_set {l : List Bool} {i : Nat} (hi : i < l.length) : maskN l ||| 2 ^ i = maskN (l.set i true) := by
  refine Nat.eq_of_testBit_eq fun j => ?_
  rw [Nat.testBit_or, maskN_bit, maskN_bit, getD_set, Nat.testBit_two_pow]
  simp [hi]
theorem ofInt_nat {x : Nat} (h : x < 4294967296) : (BitVec.ofInt 32 (x : Int)).toNat = x := by
  rw [BitVec.ofInt_natCast, BitVec.toNat_ofNat]; exact Nat.mod_eq_of_lt (by omega)
theorem wrap_u32 (n : Int) : IntKind.u32.wrap n = n % 4294967296 := by
  simp [IntKind.wrap, IntKind.signed, IntKind.bits]
theorem or_u32 {x y : Nat} (hx : x < 4294967296) (hy : y < 4294967296) : bits .or .u32 (x : Int) (y : Int) = ((x ||| y : Nat) : Int) := by
  have e : (BitVec.ofInt 32 (x : Int) ||| BitVec.ofInt 32 (y : Int)).toNat = x ||| y := by rw [BitVec.toNat_or, ofInt_nat hx, ofInt_nat hy]
  show IntKind.u32.wrap (((BitVec.ofInt 32 (x : Int) ||| BitVec.ofInt 32 (y : Int)).toNat : Nat) : Int) = _
  have : x ||| y < 2 ^ 32 := Nat.or_lt_two_pow (by omega) (by omega)
  rw [e, wrap_u32]; omega
theorem and1_u32 {x : Nat} (hx : x < 4294967296) : bits .and .u32 (x : Int) 1 = ((x % 2 : Nat) : Int) := by
  have e : (BitVec.ofInt 32 (x : Int) &&& BitVec.ofInt 32 1).toNat = x % 2 := by
    rw [BitVec.toNat_and, ofInt_nat hx, show (BitVec.ofInt 32 1).toNat = 1 by decide, Nat.and_one_is_mod]
  show IntKind.u32.wrap (((BitVec.ofInt 32 (x : Int) &&& BitVec.ofInt 32 1).toNat : Nat) : Int) = _
  rw [e, wrap_u32]; omega
theorem andNot_u32 {x y : Nat} (hx : x < 4294967296) (hy : y < 4294967296) : bits .andNot .u32 (x : Int) (y : Int) = 0 ↔ ∀ i, x.testBit i = true → y.testBit i = true := by
  have e : (BitVec.ofInt 32 (x : Int) &&& ~~~ BitVec.ofInt 32 (y : Int)).toNat = x &&& (4294967295 - y) := by
    rw [BitVec.toNat_and, BitVec.toNat_not, ofInt_nat hx, ofInt_nat hy]
  show IntKind.u32.wrap (((BitVec.ofInt 32 (x : Int) &&& ~~~ BitVec.ofInt 32 (y : Int)).toNat : Nat) : Int) = 0 ↔ _
  have hlt : x &&& (4294967295 - y) < 2 ^ 32 := Nat.lt_of_le_of_lt Nat.and_le_left (by omega)
  rw [e, wrap_u32]
  have h0 : (((x &&& (4294967295 - y) : Nat) : Int) % 4294967296 = 0) ↔ x &&& (4294967295 - y) = 0 := by omega
  rw [h0]
  have bit : ∀ i, (x &&& (4294967295 - y)).testBit i = (x.testBit i && !y.testBit i) := fun i => by
    rw [Nat.testBit_and]
    by_cases hi : i < 32
    · rw [show 4294967295 - y = 2 ^ 32 - (y + 1) by omega, Nat.testBit_two_pow_sub_succ (by omega)]
      simp [hi]
    · rw [Nat.testBit_lt_two_pow (x := x) (i := i) (Nat.lt_of_lt_of_le hx (by rw [show (4294967296 : Nat) = 2 ^ 32 by decide]; exact Nat.pow_le_pow_right (by decide) (by omega)))]
      simp
  constructor
  · intro h i hxi
    have := bit i
    rw [h, hxi] at this
    simpa using this
  · intro h
    refine Nat.eq_of_testBit_eq fun i => ?_
    rw [bit i]
    cases hxi : x.testBit i with
    | false => simp
    | true => rw [h i hxi]; simp
theorem zip_all {a d : List Bool} (hl : a.length = d.length) : (a.zip d).all (fun p => p.2 || !p.1) = true ↔ ∀ i, a.getD i false = true → d.getD i false = true := by
  induction a generalizing d with
  | nil => simp
  | cons x a ih =>
    cases d with
    | nil => simp at hl
    | cons y d =>
      rw [List.zip_cons_cons, List.all_cons, Bool.and_eq_true, ih (by simpa using hl)]
      constructor
      · rintro ⟨h1, h2⟩ i hi
        cases i with
        | zero => simp at hi h1 ⊢; subst hi; simpa using h1
        | succ i => simp at hi ⊢; exact h2 i (by simpa using hi)
      · intro h
        refine ⟨?_, fun i hi => ?_⟩
        · have := h 0
          simp at this ⊢
          cases x <;> simp_all
        · have := h (i + 1)
          simp only [List.getD_cons_succ] at this
          exact this hi
theorem mask_in {a d : List Bool} (hl : a.length = d.length) (h32 : a.length ≤ 32) : bits .andNot .u32 (maskN a : Int) (maskN d : Int) = 0 ↔ (a.zip d).all (fun p => p.2 || !p.1) = true := by
  have h1 := maskN_lt a
  have h2 := maskN_lt d
  have hp : 2 ^ a.length ≤ 4294967296 := by rw [show (4294967296 : Nat) = 2 ^ 32 by decide]; exact Nat.pow_le_pow_right (by decide) h32
  rw [← hl] at h2
  rw [andNot_u32 (by omega) (by omega), zip_all hl]
  simp only [maskN_bit]
theorem mask_bit {d : List Bool} {i : Nat} (h32 : d.length ≤ 32) : bits .and .u32 ((maskN d : Int) / 2 ^ i) 1 = if d.getD i false = true then 1 else 0 := by
  have h1 := maskN_lt d
  have hp : 2 ^ d.length ≤ 4294967296 := by rw [show (4294967296 : Nat) = 2 ^ 32 by decide]; exact Nat.pow_le_pow_right (by decide) h32
  have e : (maskN d : Int) / 2 ^ i = ((maskN d / 2 ^ i : Nat) : Int) := by norm_cast
  rw [e, and1_u32 (Nat.lt_of_le_of_lt (Nat.div_le_self _ _) (by omega))]
  have := maskN_bit d i
  rw [← this, ← Nat.shiftRight_eq_div_pow]
  unfold Nat.testBit
  rw [Nat.and_comm, Nat.and_one_is_mod]
  have h2 := Nat.mod_two_eq_zero_or_one (maskN d >>> i)
  rcases h2 with h2 | h2 <;> rw [h2] <;> rfl
end Go.Proofs.Ytbeoedgoikcbpaa
namespace Go.Proofs.Ytbeoedgoikcbpaa
set_option linter.unusedSimpArgs false
set_option linter.unusedVariables false
set_option maxRecDepth 100000
open Go Go.Ann Go.RowKit
/-- Which operations are done, by their places, and a state. -/
abbrev Spot := List Bool × List Int
def mayP (l : List OpT) (d : List Bool) (i : Nat) (o : OpT) : Bool := !(d.getD i false) && ((l.map fun p => before p o).zip d).all (fun p => p.2 || !p.1)
def fullP (l : List OpT) (d : List Bool) : Bool := ((l.map fun o => o.Done).zip d).all (fun p => p.2 || !p.1)
def addP (t : List Spot) (p : Spot) : List Spot := if p ∈ t then t else t ++ [p]
def goP (l : List OpT) (p : Spot) (t : List Spot) (k : Nat) : List Spot :=
  match l[k]? with
  | none => t
  | some o => if mayP l p.1 k o then (match stepP p.2 o with
    | some s => addP t (p.1.set k true, s)
    | none => t) else t
def roundK (l : List OpT) (p : Spot) (t : List Spot) : Nat → List Spot
  | 0 => t
  | k + 1 => goP l p (roundK l p t k) k
def bfsN (l : List OpT) (t0 : List Spot) : Nat → List Spot
  | 0 => t0
  | i + 1 => match (bfsN l t0 i)[i]? with
    | some p => roundK l p (bfsN l t0 i) l.length
    | none => bfsN l t0 i
theorem addP_pre (t : List Spot) (p : Spot) : t <+: addP t p := by
  unfold addP; split
  · exact List.prefix_rfl
  · exact List.prefix_append _ _
theorem addP_len (t : List Spot) (p : Spot) : (addP t p).length ≤ t.length + 1 := by
  unfold addP; split <;> simp
theorem goP_pre (l : List OpT) (p : Spot) (t : List Spot) (k : Nat) : t <+: goP l p t k := by
  unfold goP
  split
  · exact List.prefix_rfl
  · split
    · split
      · exact addP_pre _ _
      · exact List.prefix_rfl
    · exact List.prefix_rfl
theorem goP_len (l : List OpT) (p : Spot) (t : List Spot) (k : Nat) : (goP l p t k).length ≤ t.length + 1 := by
  unfold goP
  split
  · omega
  · split
    · split
      · exact addP_len _ _
      · omega
    · omega
theorem roundK_pre (l : List OpT) (p : Spot) (t : List Spot) : ∀ k, t <+: roundK l p t k
  | 0 => List.prefix_rfl
  | k + 1 => (roundK_pre l p t k).trans (goP_pre _ _ _ _)
theorem roundK_len (l : List OpT) (p : Spot) (t : List Spot) : ∀ k, (roundK l p t k).length ≤ t.length + k
  | 0 => Nat.le_refl _
  | k + 1 => by
    have h1 := roundK_len l p t k
    have h2 := goP_len l p (roundK l p t k) k
    rw [roundK]; omega
theorem bfsN_step (l : List OpT) (t0 : List Spot) (i : Nat) : bfsN l t0 i <+: bfsN l t0 (i + 1) := by
  rw [bfsN]; split
  · exact roundK_pre _ _ _ _
  · exact List.prefix_rfl
theorem bfsN_mono (l : List OpT) (t0 : List Spot) {i j : Nat} (h : i ≤ j) : bfsN l t0 i <+: bfsN l t0 j := by
  induction h with
  | refl => exact List.prefix_rfl
  | step _ ih => exact ih.trans (bfsN_step _ _ _)
theorem bfsN_closed {l : List OpT} {t0 : List Spot} {i j : Nat} (h : i ≤ j) (hc : (bfsN l t0 i).length ≤ i) : bfsN l t0 j = bfsN l t0 i := by
  induction h with
  | refl => rfl
  | step h ih =>
    rename_i m
    have hm : i ≤ m := h
    rw [bfsN, ih, List.getElem?_eq_none (by omega)]
/-- What a search comes to with a budget; none: to more spots than may be. -/
def SearchR (l : List OpT) (t0 : List Spot) (b : Int) : Option (List Spot) → Prop
  | none => ∃ N, b < ((bfsN l t0 N).length : Int)
  | some T => (∃ N, bfsN l t0 N = T ∧ T.length ≤ N) ∧ (T.length : Int) ≤ b
theorem SearchR.one {l : List OpT} {t0 : List Spot} {b : Int} {r r' : Option (List Spot)} (h : SearchR l t0 b r) (k : SearchR l t0 b r') : r = r' := by
  have key : ∀ {T : List Spot}, SearchR l t0 b none → SearchR l t0 b (some T) → False := by
    rintro T ⟨N, hN⟩ ⟨⟨M, rfl, hM⟩, hb⟩
    rcases Nat.le_total N M with hle | hle
    · have := (bfsN_mono l t0 hle).length_le; omega
    · rw [bfsN_closed hle hM] at hN; omega
  cases r with
  | none => cases r' with
    | none => rfl
    | some T => exact (key h k).elim
  | some T => cases r' with
    | none => exact (key k h).elim
    | some T' =>
      obtain ⟨⟨N, h1, h2⟩, _⟩ := h
      obtain ⟨⟨M, k1, k2⟩, _⟩ := k
      subst h1 k1
      rcases Nat.le_total N M with hle | hle
      · rw [bfsN_closed hle h2]
      · rw [bfsN_closed hle k2]
/-- What is known of each spot: kind, bound of states' lengths, operations. -/
structure Good (K : Int) (M n : Nat) (p : Spot) : Prop where
  len : p.1.length = n
  ok : Ok64 p.2
  sz : p.2.length ≤ M + p.1.count true
  ris : K = 5 → p.2.Pairwise (· < ·)
theorem Good.okS {K : Int} {M n : Nat} {p : Spot} (h : Good K M n p) (hm : M + n ≤ 1000000) : OkS p.2 := by
  refine ⟨h.ok, ?_⟩
  have h1 := h.sz
  have h2 := List.count_le_length (a := true) (l := p.1)
  rw [h.len] at h2
  omega
theorem wrap_ok (n : Int) : I64 (IntKind.i64.wrap n) := by
  constructor <;> simp [IntKind.wrap, IntKind.signed, IntKind.bits] <;> omega
theorem kOk_i64 {n : Int} (h : kOk .i64 n) : I64 n := by
  unfold kOk Lit.wf at h
  simp [IntKind.min, IntKind.max, IntKind.signed, IntKind.bits] at h
  exact ⟨by omega, by omega⟩
theorem numP_ok {x : Int} {o : OpT} {s : List Int} {n : Int} (hw : o.wf) (hx : I64 x) (h : numP x o = some (s, n)) : Ok64 s ∧ s.length = 1 := by
  have h1 : ∀ y : Int, I64 y → Ok64 [y] ∧ [y].length = 1 := fun y hy => ⟨fun z hz => by rw [List.mem_singleton] at hz; subst hz; exact hy, rfl⟩
  obtain ⟨_, _, _, _, _, ha, hs, _⟩ := hw
  unfold numP at h
  repeat' split at h
  all_goals first | (cases h; done) | skip
  all_goals simp only [Option.some.injEq, Prod.mk.injEq] at h; obtain ⟨rfl, _⟩ := h
  · exact h1 _ hx
  · exact h1 _ (kOk_i64 ha)
  · exact h1 _ (kOk_i64 hs)
  · exact h1 _ hx
  · exact h1 _ (wrap_ok _)
  · exact h1 _ (wrap_ok _)
theorem listP_ok {s : List Int} {o : OpT} {t : List Int} {n : Int} (hw : o.wf) (hx : Ok64 s) (h : listP s o = some (t, n)) : Ok64 t ∧ t.length ≤ s.length + 1 := by
  obtain ⟨_, _, _, _, _, ha, hs, _⟩ := hw
  unfold listP at h
  repeat' split at h
  all_goals first | (cases h; done) | skip
  all_goals simp only [Option.some.injEq, Prod.mk.injEq] at h; obtain ⟨rfl, _⟩ := h
  · refine ⟨fun z hz => ?_, by simp⟩
    rcases List.mem_append.1 hz with hz | hz
    · exact hx z hz
    · rw [List.mem_singleton] at hz; subst hz; exact kOk_i64 ha
  · exact ⟨fun z hz => (by cases hz), by simp⟩
  · exact ⟨fun z hz => hx z (List.mem_cons_of_mem _ hz), by simp; omega⟩
  · exact ⟨fun z hz => (by cases hz), by simp⟩
  · exact ⟨fun z hz => hx z ((List.dropLast_subset _) hz), by simp; omega⟩
theorem setP_ok {s : List Int} {o : OpT} {t : List Int} {n : Int} (hw : o.wf) (hx : Ok64 s) (hs : s.Pairwise (· < ·)) (h : setP s o = some (t, n)) : Ok64 t ∧ t.length ≤ s.length + 1 ∧ t.Pairwise (· < ·) := by
  obtain ⟨_, _, _, _, _, ha, _, _⟩ := hw
  unfold setP at h
  repeat' split at h
  all_goals first | (cases h; done) | skip
  all_goals simp only [Option.some.injEq, Prod.mk.injEq] at h; obtain ⟨rfl, _⟩ := h
  · exact ⟨hx, by omega, hs⟩
  · exact ⟨hx, by omega, hs⟩
  · exact ⟨hx, by omega, hs⟩
  · rename_i hni _
    refine ⟨fun z hz => ?_, by unfold insP; simp; omega, insP_sorted hs hni⟩
    rcases insP_mem.1 hz with e | hz
    · subst e; exact kOk_i64 ha
    · exact hx z hz
  · exact ⟨fun z hz => hx z ((List.mem_filter.1 hz).1), by have := List.length_filter_le (fun y => !decide (y = o.Arg)) s; unfold delP; omega, delP_sorted hs⟩
  · exact ⟨hx, by omega, hs⟩
theorem stepP_ok {s : List Int} {o : OpT} {t : List Int} (hw : o.wf) (hx : Ok64 s) (hs : o.Kind = 5 → s.Pairwise (· < ·)) (h : stepP s o = some t) : Ok64 t ∧ t.length ≤ s.length + 1 ∧ (o.Kind = 5 → t.Pairwise (· < ·)) := by
  unfold stepP at h
  split at h
  case h_2 => cases h
  rename_i t' n hd
  have e : t' = t := by
    split at h
    · cases h
    · simpa using h
  subst e
  unfold doP at hd
  split at hd
  · rename_i hk
    have h5 : o.Kind ≠ 5 := by omega
    unfold numL at hd
    split at hd
    · obtain ⟨h1, h2⟩ := numP_ok hw (hx _ (List.mem_singleton.2 rfl)) hd
      exact ⟨h1, by omega, fun e => absurd e h5⟩
    · cases hd
  split at hd
  · rename_i hk
    have h5 : o.Kind ≠ 5 := by omega
    obtain ⟨h1, h2⟩ := listP_ok hw hx hd
    exact ⟨h1, h2, fun e => absurd e h5⟩
  split at hd
  · rename_i hk
    obtain ⟨h1, h2, h3⟩ := setP_ok hw hx (hs hk) hd
    exact ⟨h1, h2, fun _ => h3⟩
  split at hd
  · rename_i hk
    have h5 : o.Kind ≠ 5 := by omega
    repeat' split at hd
    all_goals first | (cases hd; done) | skip
    all_goals simp only [Option.some.injEq, Prod.mk.injEq] at hd; obtain ⟨rfl, _⟩ := hd
    · obtain ⟨_, hp, _⟩ := hw
      exact ⟨fun z hz => by rw [List.mem_singleton] at hz; subst hz; exact kOk_i64 hp, by simp, fun e => absurd e h5⟩
    · exact ⟨fun z hz => (by cases hz), by simp, fun e => absurd e h5⟩
  · cases hd
theorem count_set {d : List Bool} {k : Nat} (hk : k < d.length) (h : d.getD k false = false) : (d.set k true).count true = d.count true + 1 := by
  induction d generalizing k with
  | nil => simp at hk
  | cons b d ih =>
    cases k with
    | zero =>
      simp at h; subst h
      simp
    | succ k =>
      rw [List.set_cons_succ, List.count_cons, List.count_cons, ih (by simpa using hk) (by simpa using h)]
      omega
theorem Good.go {K : Int} {M : Nat} {l : List OpT} {p : Spot} {k : Nat} {s : List Int} (h : Good K M l.length p) (hk : k < l.length) (ha : ∀ o ∈ l, o.Kind = K) (hw : ∀ o ∈ l, o.wf) (hm : mayP l p.1 k l[k] = true) (hs : stepP p.2 l[k] = some s) : Good K M l.length (p.1.set k true, s) := by
  have hmem := List.getElem_mem hk
  obtain ⟨h1, h2, h3⟩ := stepP_ok (hw _ hmem) h.ok (fun e => h.ris ((ha _ hmem).symm.trans e)) hs
  have hf : p.1.getD k false = false := by
    unfold mayP at hm
    rw [Bool.and_eq_true] at hm
    simpa using hm.1
  refine ⟨by simpa using h.len, h1, ?_, fun e => h3 ((ha _ hmem).trans e)⟩
  have := h.sz
  rw [count_set (by rw [h.len]; exact hk) hf]
  simp only
  omega
end Go.Proofs.Ytbeoedgoikcbpaa
