/- Texts put together by program. -/
import Derived.Test.YtmchjbgobiagiaaGreatQB4
namespace Go.Proofs.YtmchjbgobiagiaaGreat
set_option linter.unusedSimpArgs false
set_option linter.unusedVariables false
set_option maxRecDepth 100000
open Go Go.Ann Go.RowKit Go.WideShapes
theorem bit_ok (c i : Int) (w : World) (hc0 : 0 ≤ c) (hc : c ≤ 255) (hi0 : 0 ≤ i) (hi : i ≤ 8) :
    Ret Tryz.prog 95 [.int .u8 c, .int .i64 i] w fun v w' => v = .bool (bitOf c i.toNat) ∧ w' = w := by
  refine ent95 _ _ _ _ ?_
  simp only [go_sem, c95, c95S0, c95L0, c95S1, loadK_int, loadK_bool, loadK_str, loadK_slice, loadK_ptr, loadK_map, loadK_agg, loadK_other, heldW]
  refine W_loop (fun k : Nat => [(0, .int .u8 (c / 2 ^ k)), (1, .int .i64 i), (5, .int .i64 (k : Int))]) (fun k w' => (k : Int) ≤ i ∧ w' = w) (fun k => i.toNat - k) 0 (by simp) ⟨by omega, rfl⟩ ?_
  rintro k w' ⟨hk, rfl⟩
  obtain ⟨b0, b1⟩ := div_pow_bd c k hc0 hc
  simp only [go_sem, c95, c95S0, c95L0, c95S1, c95L0, loadK_int, loadK_bool, loadK_str, loadK_slice, loadK_ptr, loadK_map, loadK_agg, loadK_other, heldW]
  refine ⟨fun h => ⟨⟨by omega, by omega⟩, k + 1, ?_, by omega, by omega⟩, fun h => ?_⟩
  · rw [Int.tdiv_eq_ediv_of_nonneg b0, wrap_u8_id _ (by omega) (by omega), div_pow_succ]; simp
  · rw [Int.tmod_eq_emod_of_nonneg b0, show i.toNat = k by omega]; simp [bitOf]
theorem rhas_ok (l : List UInt8) (i : Int) (w : World) (hi : I64 i) :
    Ret Tryz.prog 72 [.string (ofL l), .int .i64 i] w fun v w' => v = .bool (hasL l i) ∧ w' = w := by
  refine ent72 _ _ _ _ ?_
  simp only [go_sem, c72, c72S0, c72S1, loadK_int, loadK_bool, loadK_str, loadK_slice, loadK_ptr, loadK_map, loadK_agg, loadK_other, heldW]
  refine ⟨fun h0 => ?_, fun h0 => ?_⟩
  · rw [Int.tdiv_eq_ediv_of_nonneg h0, Int.tmod_eq_emod_of_nonneg h0]
    have e1 : decide (0 ≤ i) = true := by simpa using h0
    refine ⟨hi, fun h1 => ?_, fun h1 => ⟨hi, ⟨by omega, h1⟩, ?_⟩⟩
    · have e2 : decide (i < 8 * (l.length : Int)) = false := by simp; omega
      simp [hasL, e2]
    · have b := bN_bd l (i / 8)
      refine (bit_ok _ _ _ b.1 b.2 (by omega) (by omega)).mono ?_
      rintro _ _ ⟨rfl, rfl⟩
      have e2 : decide (i < 8 * (l.length : Int)) = true := by simp; omega
      simp only [go_sem, c72, c72S0, c72S1, loadK_int, loadK_bool, loadK_str, loadK_slice, loadK_ptr, loadK_map, loadK_agg, loadK_other, heldW]
      simp [hasL, e1, e2]
  · have e2 : decide (0 ≤ i) = false := by simp; omega
    simp [hasL, e2]
theorem rwith_ok (l : List UInt8) (i : Int) (b : Bool) (w : World) (hi : I64 i) (hl : (l.length : Int) ≤ 9223372036854775807) :
    Ret Tryz.prog 96 [.string (ofL l), .int .i64 i, .bool b] w fun v w' => v = .tuple #[.string (ofL (withL l i b)), .bool (fitsL l i)] ∧ Below w.heap.size w w' := by
  refine ent96 _ _ _ _ _ ?_
  simp only [go_sem, c96, c96S0, c96L0, c96S1, c96S2, c96S3, loadK_int, loadK_bool, loadK_str, loadK_slice, loadK_ptr, loadK_map, loadK_agg, loadK_other, heldW]
  have out : ¬ (0 ≤ i ∧ i < 8 * (l.length : Int)) → Value.tuple #[Value.string (ofL l), Value.bool false] = Value.tuple #[Value.string (ofL (withL l i b)), Value.bool (fitsL l i)] ∧ Below w.heap.size w w := by
    intro h
    rw [withL, fitsL, if_neg h, decide_eq_false h]
    exact ⟨rfl, Below.refl _ _⟩
  refine ⟨fun h0 => ?_, fun h0 => out (by omega)⟩
  rw [Int.tdiv_eq_ediv_of_nonneg h0]
  refine ⟨hi, fun h1 => out (by omega), fun h1 => ?_⟩
  have h2 : (0 ≤ i ∧ i < 8 * (l.length : Int)) := by omega
  clear out
  simp only [go_sem, c96, c96S0, c96L0, c96S1, c96S2, c96S3, c96S6, loadK_int, loadK_bool, loadK_str, loadK_slice, loadK_ptr, loadK_map, loadK_agg, loadK_other, heldW]
  refine W_loop (fun k : Nat => [(0, .string (ofL l)), (1, .int .i64 i), (2, .bool b), (8, .int .u8 (2 ^ k)), (9, .int .i64 (k : Int))]) (fun k w' => (k : Int) ≤ i % 8 ∧ w' = w) (fun k => 8 - k) 0 (by rfl) ⟨by omega, rfl⟩ ?_
  rintro k w' ⟨hk, rfl⟩
  simp only [go_sem, c96, c96S0, c96L0, c96S1, c96S2, c96S3, c96S6, c96L0, loadK_int, loadK_bool, loadK_str, loadK_slice, loadK_ptr, loadK_map, loadK_agg, loadK_other, heldW]
  have hi8 : I64 i := hi
  rw [Int.tmod_eq_emod_of_nonneg h0]
  refine ⟨fun h3 => ⟨⟨by omega, by omega⟩, k + 1, ?_, by omega, by omega⟩, fun h3 => ?_⟩
  · have : (2 : Int) ^ k * 2 ≤ 255 := by
      have : k ≤ 6 := by omega
      have h : ∀ k : Fin 7, (2 : Int) ^ k.val * 2 ≤ 255 := by decide
      exact h ⟨k, by omega⟩
    have h0 : (0 : Int) ≤ 2 ^ k := Int.pow_nonneg (by decide)
    rw [wrap_u8_id _ (by omega) this, ← Int.pow_succ]; simp
  · have hk8 : (i % 8).toNat = k := by omega
    simp only [go_sem, c96, c96S0, c96L0, c96S1, c96S2, c96S3, c96S5, c96S6, loadK_int, loadK_bool, loadK_str, loadK_slice, loadK_ptr, loadK_map, loadK_agg, loadK_other, heldW]
    rw [Int.tdiv_eq_ediv_of_nonneg h0]
    refine ⟨hi, ⟨by omega, h1⟩, ?_⟩
    have fin : ∀ n : Int, n = setBit (bN l (i / 8)) (i % 8).toNat b → W Tryz.prog (c96S4 ()) [(0, .string (ofL l)), (1, .int .i64 i), (10, .int .u8 n)] w'
        (finQ Tryz.prog [.tmp 6, .tmp 7] fun v w2 => v = Value.tuple #[Value.string (ofL (withL l i b)), Value.bool (fitsL l i)] ∧ Below w'.heap.size w' w2) := by
      intro n hn
      simp only [go_sem, c96, c96S0, c96L0, c96S1, c96S2, c96S3, c96S4, c96S5, c96S6, loadK_int, loadK_bool, loadK_str, loadK_slice, loadK_ptr, loadK_map, loadK_agg, loadK_other, heldW]
      refine c96draw0 ?_
      simp only [go_sem, c96, c96S0, c96L0, c96S1, c96S2, c96S3, c96S4, c96S5, c96S6, c96D0, loadK_int, loadK_bool, loadK_str, loadK_slice, loadK_ptr, loadK_map, loadK_agg, loadK_other, heldW]
      have bd := bN_bd l (i / 8)
      have bd2 := setBit_bd (bN l (i / 8)) (i % 8).toNat b bd.1 bd.2 (by omega)
      rw [← hn] at bd2
      rw [Int.tdiv_eq_ediv_of_nonneg h0]
      refine ⟨hi, ⟨by omega, by omega⟩, hi, ⟨by omega, by omega⟩, ⟨by omega, by omega⟩, ?_⟩
      refine bsW_ones ty106mkI rfl rfl (by decide) (by decide) (by simp [Value.oneCell']) ?_
      simp only [go_sem, c96, c96S0, c96L0, c96S1, c96S2, c96S3, c96S4, c96S5, c96S6, loadK_int, loadK_bool, loadK_str, loadK_slice, loadK_ptr, loadK_map, loadK_agg, loadK_other, heldW]
      refine ⟨[UInt8.ofNat n.toNat], rfl, ?_, ?_⟩
      · intro j c hj
        match j, hj with
        | 0, hj =>
          simp only [List.getElem?_cons_zero, Option.some.injEq] at hj; subst hj
          simp only [Addr.add_lit]
          have : (w'.alloc (.cells #[.int .u8 n] 5)).cell? ⟨w'.heap.size, 0, none⟩ = some (.int .u8 n) := by rw [World.cell?_alloc_at _ _ _ _ rfl]; simp
          show (w'.alloc (.cells #[.int .u8 n] 5)).cell? ⟨w'.heap.size, 0, none⟩ = _
          rw [this]; simp; omega
        | j + 1, hj => simp at hj
      · have e : List.take (i / 8).toNat l ++ [UInt8.ofNat n.toNat] ++ List.drop (i / 8 + 1).toNat l = withL l i b := by
          rw [withL, if_pos h2, List.set_eq_take_append_cons_drop, if_pos (by omega), hn, show (i / 8 + 1).toNat = (i / 8).toNat + 1 by omega]
          simp
        have len1 : (List.take (i / 8).toNat l).length = (i / 8).toNat := by rw [List.length_take]; omega
        have len2 : (List.drop (i / 8 + 1).toNat l).length = l.length - (i / 8 + 1).toNat := List.length_drop
        rw [e, fitsL, decide_eq_true h2]
        refine ⟨?_, ?_, rfl, ?_⟩
        · simp only [List.length_append, len1, List.length_cons, List.length_nil]; omega
        · simp only [List.length_append, len1, len2, List.length_cons, List.length_nil]; omega
        · exact (Below.refl _ _).drew.alloc (Nat.le_refl _) _
    refine (rhas_ok l i _ hi).mono ?_
    rintro _ w2 ⟨rfl, rfl⟩
    simp only [go_sem, c96, c96S0, c96L0, c96S1, c96S2, c96S3, c96S5, c96S6, loadK_int, loadK_bool, loadK_str, loadK_slice, loadK_ptr, loadK_map, loadK_agg, loadK_other, heldW]
    have bd := bN_bd l (i / 8)
    have hb : hasL l i = bitOf (bN l (i / 8)) (i % 8).toNat := by
      have e1 : decide (0 ≤ i) = true := by simpa using h0
      have e2 : decide (i < 8 * (l.length : Int)) = true := by simp; omega
      simp [hasL, e1, e2]
    have hu : IntKind.u8.wrap (bN l (i / 8) - 2 ^ k) = bN l (i / 8) - 2 ^ k ∨ hasL l i = false := by
      by_cases hh : hasL l i = true
      · left
        have := setBit_bd (bN l (i / 8)) (i % 8).toNat false bd.1 bd.2 (by omega)
        rw [setBit, if_neg (by decide), ← hb, if_pos hh, hk8] at this
        exact wrap_u8_id _ this.1 this.2
      · right; simpa using hh
    have hu2 : IntKind.u8.wrap (bN l (i / 8) + 2 ^ k) = bN l (i / 8) + 2 ^ k ∨ hasL l i = true := by
      by_cases hh : hasL l i = true
      · exact .inr hh
      · left
        have := setBit_bd (bN l (i / 8)) (i % 8).toNat true bd.1 bd.2 (by omega)
        rw [setBit, if_pos rfl, ← hb, if_neg hh, hk8] at this
        exact wrap_u8_id _ this.1 this.2
    refine ⟨fun h5 => ⟨fun h6 => ?_, fun h6 => ?_⟩, fun h5 => ?_⟩
    · refine fin _ ?_
      rw [hu.resolve_right (by rw [h5]; decide), h6, setBit, if_neg (by decide), ← hb, if_pos h5, hk8]
    · refine (rhas_ok l i _ hi).mono ?_
      rintro _ w3 ⟨rfl, rfl⟩
      simp only [go_sem, c96, c96S0, c96L0, c96S1, c96S2, c96S3, c96S5, c96S6, loadK_int, loadK_bool, loadK_str, loadK_slice, loadK_ptr, loadK_map, loadK_agg, loadK_other, heldW]
      refine ⟨fun h7 => ?_, fun _ => fin _ ?_⟩
      · rw [h5] at h7; cases h7
      · rw [h6, setBit, if_pos rfl, ← hb, if_pos h5]
    · refine (rhas_ok l i _ hi).mono ?_
      rintro _ w3 ⟨rfl, rfl⟩
      simp only [go_sem, c96, c96S0, c96L0, c96S1, c96S2, c96S3, c96S5, c96S6, loadK_int, loadK_bool, loadK_str, loadK_slice, loadK_ptr, loadK_map, loadK_agg, loadK_other, heldW]
      refine ⟨fun _ => ⟨fun h6 => fin _ ?_, fun h6 => fin _ ?_⟩, fun h7 => ?_⟩
      · rw [hu2.resolve_right (by rw [h5]; decide), h6, setBit, if_pos rfl, ← hb, if_neg (by rw [h5]; decide), hk8]
      · rw [h6, setBit, if_neg (by decide), ← hb, if_neg (by rw [h5]; decide)]
      · rw [h5] at h7; cases h7
end Go.Proofs.YtmchjbgobiagiaaGreat

namespace Go.Proofs.YtmchjbgobiagiaaGreat
set_option linter.unusedSimpArgs false
set_option linter.unusedVariables false
set_option maxRecDepth 100000
open Go Go.Ann Go.RowKit Go.WideShapes
theorem runfixed_ok (l : List UInt8) (w : World) (hl : l.length ≤ 7) : Ret Tryz.prog 75 [.string (ofL l)] w fun u w' => u = .int .u64 (unfixL l) ∧ w' = w := by
  refine ent75 _ _ _ ?_
  simp (disch := first | omega | exact okFill_t rfl | exact okSize_t rfl | exact fun h => h | (simp only [World.size_alloc, World.size_drew, World.size_setCell, size_fill, bytesW]; omega)) only [go_sem, c75, c75S0, c75S1]
  refine W_loopU (fun j : Nat => [(3, .int .u64 (unfixL (l.take j))), (4, .int .u64 ((256 ^ j : Nat) : Int)), (5, .int .i64 j)]) (fun j w' => w' = w ∧ j ≤ l.length) (fun j => l.length - j) 0 rfl ⟨rfl, Nat.zero_le _⟩ ?_
  rintro j w1 ⟨e1, hj⟩
  subst w1
  by_cases hlt : j < l.length
  · have hlt' : (j : Int) < l.length := by omega
    have h8 : (j : Int) < 8 := by omega
    simp (disch := first | omega | exact okFill_t rfl | exact okSize_t rfl | exact fun h => h | (simp only [World.size_alloc, World.size_drew, World.size_setCell, size_fill, bytesW]; omega)) only [go_sem, c75, c75S0, c75L0, c75S1, c75L0, hlt', h8]
    have hb : bN l (j : Int) = ((l[j].toNat : Nat) : Int) := (bN_get l j _ (List.getElem?_eq_getElem hlt))
    have hlt2 := unfixL_lt (l.take j)
    rw [List.length_take, Nat.min_eq_left (by omega)] at hlt2
    have hbl := l[j].toNat_lt
    have hp1 : (256 : Nat) ^ j ≤ 256 ^ 6 := Nat.pow_le_pow_right (by decide) (by omega)
    have hp0 : 0 < (256 : Nat) ^ j := Nat.pow_pos (by decide)
    have e6 : (256 : Nat) ^ 6 = 281474976710656 := by decide
    have e3 : unfixL (l.take (j + 1)) = unfixL (l.take j) + l[j].toNat * 256 ^ j := by
      rw [List.take_succ_eq_append_getElem hlt, unfixL_snoc, List.length_take, Nat.min_eq_left (by omega)]
    have e4 : (256 : Nat) ^ (j + 1) = 256 ^ j * 256 := Nat.pow_succ ..
    have hm : l[j].toNat * 256 ^ j ≤ 255 * 256 ^ j := Nat.mul_le_mul_right _ (by omega)
    have ex : ((l[j].toNat : Nat) : Int) * ((256 ^ j : Nat) : Int) = ((l[j].toNat * 256 ^ j : Nat) : Int) := (Int.natCast_mul ..).symm
    rw [hb, wrap_u64_id _ (show 0 ≤ ((l[j].toNat : Nat) : Int) by omega) (by omega), ex]
    generalize l[j].toNat * 256 ^ j = y at e3 hm ⊢
    rw [wrap_u64_id _ (show 0 ≤ (y : Int) by omega) (by omega), wrap_u64_id _ (by omega) (by omega), wrap_u64_id _ (by omega) (by omega)]
    refine ⟨by omega, by constructor <;> omega, j + 1, ?_, by omega, by omega⟩
    rw [e3, e4]
    push_cast
    rfl
  · have hlt' : ¬ (j : Int) < l.length := by omega
    simp (disch := first | omega | exact okFill_t rfl | exact okSize_t rfl | exact fun h => h | (simp only [World.size_alloc, World.size_drew, World.size_setCell, size_fill, bytesW]; omega)) only [go_sem, c75, c75S0, c75L0, c75S1, c75L0, hlt']
    rw [List.take_of_length_le (by omega)]
theorem rfixed_ok (n k : Nat) (w : World) (hn : n < 18446744073709551616) (hk : k ≤ 8) : Ret Tryz.prog 76 [.int .u64 n, .int .i64 k] w fun u w' => u = .string (ofL (fixL n k)) ∧ Below w.heap.size w w' := by
  refine ent76 _ _ _ _ ?_
  simp (disch := first | omega | exact okFill_t rfl | exact okSize_t rfl | exact fun h => h | (simp only [World.size_alloc, World.size_drew, World.size_setCell, size_fill, bytesW]; omega)) only [go_sem, c76, c76S0, c76S1]
  refine W_loopU (fun j : Nat => [(0, .int .u64 ((n / 256 ^ j : Nat) : Int)), (5, .string (ofL (fixL n j))), (6, .int .i64 j)]) (fun j w' => Below w.heap.size w w' ∧ j ≤ k) (fun j => k - j) 0 (by simp only [Nat.pow_zero, Nat.div_one]; rfl) ⟨Below.refl _ _, Nat.zero_le _⟩ ?_
  rintro j w1 ⟨b1, hj⟩
  by_cases hlt : j < k
  · have hlt' : (j : Int) < k := by omega
    have h8 : (j : Int) < 8 := by omega
    simp (disch := first | omega | exact okFill_t rfl | exact okSize_t rfl | exact fun h => h | (simp only [World.size_alloc, World.size_drew, World.size_setCell, size_fill, bytesW]; omega)) only [go_sem, c76, c76S0, c76L0, c76S1, c76L0, hlt', h8]
    have e1 : (n / 256 ^ j) / 256 = n / 256 ^ (j + 1) := by rw [Nat.div_div_eq_div_mul, Nat.pow_succ]
    have e3 : fixL n (j + 1) = fixL n j ++ [u8 (n / 256 ^ j)] := fixL_succ n j
    have hmn : n / 256 ^ j ≤ n := Nat.div_le_self _ _
    generalize n / 256 ^ j = m at e1 e3 hmn ⊢
    have e2 : IntKind.u8.wrap ((m : Int).tmod 256) = ((u8 m).toNat : Int) := by
      rw [show (m : Int).tmod 256 = ((m % 256 : Nat) : Int) from (Int.ofNat_tmod m 256).symm, wrap_u8]
      unfold u8
      simp
    have e4 : (m : Int).tdiv 256 = ((m / 256 : Nat) : Int) := (Int.ofNat_tdiv m 256).symm
    rw [e2]
    refine bsW_ones ty106mkI rfl rfl (by decide) (by decide) (byte_one (u8 m)) ?_
    simp (disch := first | omega | exact okFill_t rfl | exact okSize_t rfl | exact fun h => h | (simp only [World.size_alloc, World.size_drew, World.size_setCell, size_fill, bytesW]; omega)) only [go_sem, c76, c76S0, c76L0, c76S1]
    rw [e4, wrap_u64_id _ (by omega) (by omega)]
    refine ⟨[u8 m], rfl, ?_, ?_, by constructor <;> omega, j + 1, ?_, ⟨b1.alloc b1.size _, by omega⟩, by omega⟩
    · intro i c hi
      match i, hi with
      | 0, hi =>
        simp only [List.getElem?_cons_zero, Option.some.injEq] at hi; subst hi
        simp only [Addr.add_lit]
        show (w1.alloc (.cells #[.int .u8 ((u8 m).toNat : Int)] 5)).cell? ⟨w1.heap.size, 0, none⟩ = _
        rw [World.cell?_alloc_at _ _ _ _ rfl]; simp
      | i + 1, hi => simp at hi
    · rw [fixL_len]; simp; omega
    · rw [e1, e3]; rfl
  · have hlt' : ¬ (j : Int) < k := by omega
    obtain rfl : j = k := by omega
    simp (disch := first | omega | exact okFill_t rfl | exact okSize_t rfl | exact fun h => h | (simp only [World.size_alloc, World.size_drew, World.size_setCell, size_fill, bytesW]; omega)) only [go_sem, c76, c76S0, c76L0, c76S1, c76L0, hlt']
    exact b1
end Go.Proofs.YtmchjbgobiagiaaGreat

namespace Go.Proofs.YtmchjbgobiagiaaGreat
set_option linter.unusedSimpArgs false
set_option linter.unusedVariables false
set_option maxRecDepth 100000
open Go Go.Ann Go.RowKit Go.WideShapes
theorem Pgr.lift {e : En} {P : List (List UInt8)} {W0 w : World} {F : Nat → Prop} {L : List Res} {I : List Inv} (h : Pgr e P W0 w F L I) : ∃ A, St W0 w F (L ++ A) I ∧ ∀ w' L' I', St W0 w' F (L' ++ A) I' → Pgr e P W0 w' F L' I' := by
  obtain ⟨rv, l, s, hs, h2⟩ := h
  refine ⟨PgL e rv l s, hs.perm List.perm_append_comm, fun w' L' I' h' => ⟨rv, l, s, h'.perm List.perm_append_comm, h2⟩⟩
theorem lenG {P : Program} {κ ν : Type} {ek : κ → Value} {ev : ν → Value} {w : World} {K : Value → World → Prop} {m t e ty r c : Nat} {cs : Array Bool} {l : List (κ × ν × Nat)} (hm : P.underlying m = some (.map t e)) (hr : w.heap[r]? = some (mapG ek ev l c)) (hK : K (.int .i64 l.length) w) : rawB P .len #[m] ty cs [.map (some r)] w K := by
  refine ⟨_, w, ?_, hK⟩
  have hg : (getObj r).run P w = .ok (.map (l.map (entG ek ev)).toArray c) w := run_getObj_map w r _ _ hr
  simp [builtin, Builtin.len_, Sem.run_bind, run_underlying hm, hg, Result.andThen_ok, goInt]
end Go.Proofs.YtmchjbgobiagiaaGreat

namespace Go.Proofs.YtmchjbgobiagiaaGreat
set_option linter.unusedSimpArgs false
set_option linter.unusedVariables false
set_option maxRecDepth 100000
open Go Go.Ann Go.RowKit Go.WideShapes
structure Pages (P : List (List UInt8)) : Prop where
  three : 3 ≤ P.length
  few : P.length ≤ 64
  full : ∀ x ∈ P, x.length = 256
theorem Pages.set {P : List (List UInt8)} (h : Pages P) (i : Nat) {l : List UInt8} (hl : l.length = 256) : Pages (P.set i l) :=
  ⟨by rw [List.length_set]; exact h.three, by rw [List.length_set]; exact h.few, fun x hx => by
    rcases List.mem_or_eq_of_mem_set hx with hx | rfl
    · exact h.full x hx
    · exact hl⟩
theorem Pages.at {P : List (List UInt8)} (h : Pages P) {i : Nat} (hi : i < P.length) : (P.getD i []).length = 256 := by
  rw [List.getD_eq_getElem?_getD, List.getElem?_eq_getElem hi]
  exact h.full _ (List.getElem_mem hi)
section
variable {W0 w : World} {F : Nat → Prop} {L : List Res} {I : List Inv} {P : List (List UInt8)} {vn : Value} {a0 : Option Addr} {n0 c0 : Nat}
theorem rput_ok (at' : Nat) (d : List UInt8) (h : St W0 w F L (.rd 1 strE vn P :: I)) (hp : Pages P) (hi : at' < P.length) (hd : d.length ≤ 256) :
    Ret Tryz.prog 45 [.agg #[vn, .slice a0 n0 c0], .int .i64 at', .string (ofL d)] w fun u w' => ∃ vn', u = .agg #[vn', .slice a0 n0 c0] ∧ St W0 w' F L (.rd 1 strE vn' (P.set at' (filledL d)) :: I) := by
  have h64 := hp.few
  obtain ⟨a, c, rfl, hac⟩ := (h.rd 0 rfl).form
  refine ent45 _ _ _ _ _ ?_
  simp (disch := first | omega | exact okFill_t rfl | exact okSize_t rfl | exact fun h => h | (simp only [World.size_alloc, World.size_drew, World.size_setCell, size_fill, bytesW]; omega)) only [go_sem, c45, c45S0, c45S1]
  refine bsW_none ty49mkI ?_
  have s1 := ((h.box #[.slice a P.length c, .slice a0 n0 c0] 51).box #[.slice none 0 0, .slice none 0 0] 51).emptyRow 9 1
  simp only [World.size_alloc] at s1
  have r1 := s1.rules 2 rfl
  have hz := s1.low 2 rfl
  simp (disch := first | omega | exact okFill_t rfl | exact okSize_t rfl | exact fun h => h | (simp only [World.size_alloc, World.size_drew, World.size_setCell, size_fill, bytesW]; omega)) only [go_sem, c45, c45S0, c45S1, r1]
  have hx : Rd (((w.alloc (.cells #[.slice a P.length c, .slice a0 n0 c0] 51)).alloc (.cells #[.slice none 0 0, .slice none 0 0] 51)).alloc (.cells #[] 9)) 1 (.slice a P.length c) P.length (P.flatMap strE) := s1.rd 0 rfl
  generalize (((w.alloc (.cells #[.slice a P.length c, .slice a0 n0 c0] 51)).alloc (.cells #[.slice none 0 0, .slice none 0 0] 51)).alloc (.cells #[] 9)) = w1 at s1 r1 hz hx ⊢
  generalize w.heap.size = z at s1 r1 hz ⊢
  refine s1.append (n := 0) 0 rfl ty49mkI rfl (by decide) hx (strE_ones P) (by omega) (by omega) ?_
  intro v2 w2 s2 _
  have s2 := st_recast (L' := .row v2 9 1 P.length (P.flatMap strE) :: .blk (z + 1) #[.slice none 0 0, .slice none 0 0] 51 :: .blk z #[.slice a P.length c, .slice a0 n0 c0] 51 :: L) s2 (by rw [Nat.zero_add]; rfl)
  obtain ⟨g2, c2, rfl, hc2⟩ := (s2.row 0 rfl).form (by have := hp.three; omega)
  have r2 := s2.rules 2 rfl
  simp (disch := first | omega | exact okFill_t rfl | exact okSize_t rfl | exact fun h => h | (simp only [World.size_alloc, World.size_drew, World.size_setCell, size_fill, bytesW]; omega)) only [go_sem, c45, c45S0, c45S1, r2]
  have s3 := s2.set 2 rfl 0 (.slice (some ⟨g2, 0, none⟩) P.length c2)
  generalize w2.setCell ⟨z, 0, none⟩ (.slice (some ⟨g2, 0, none⟩) P.length c2) = w3 at s3 ⊢
  refine c45draw0 (Same (fun k => k = z) _) (Same.refl _ _) ?_
  have s4 := s3.drew
  generalize w3.drew = w4 at s4 ⊢
  have r4 := s4.rules 2 rfl
  simp (disch := first | omega | exact okFill_t rfl | exact okSize_t rfl | exact fun h => h | (simp only [World.size_alloc, World.size_drew, World.size_setCell, size_fill, bytesW]; omega)) only [go_sem, c45, c45S0, c45S1, c45D0, r4]
  refine Ret.mono (filled_ok d w4 hd) ?_
  rintro _ w5 ⟨rfl, b5⟩
  have sm : Same (fun k => k = z) w4 w5 := fun j hj => by subst hj; exact b5.block _ (s4.low 2 rfl).2
  have s5 := s4.call b5
  have hi' : (at' : Int) < P.length := by omega
  have ef := (s5.row 0 rfl).frozenAt at'
  have s6 := s5.put 0 rfl at' (.string (ofL (filledL d)))
  have ec := (s5.row 0 rfl).cellAt at' (by omega)
  have hnN : (P.flatMap strE)[at']? = some (.string (ofL P[at'])) := by rw [strE_map, List.getElem?_map, List.getElem?_eq_getElem hi]; rfl
  rw [hnN] at ec
  have e6 : (P.flatMap strE).set at' (.string (ofL (filledL d))) = (P.set at' (filledL d)).flatMap strE := by rw [strE_map, strE_map, List.map_set]
  simp (disch := first | omega | exact okFill_t rfl | exact okSize_t rfl | exact fun h => h | (simp only [World.size_alloc, World.size_drew, World.size_setCell, size_fill, bytesW]; omega)) only [go_sem, c45, c45S0, c45S1, hi', ef, ec]
  refine ⟨sm, by omega, ?_⟩
  rw [e6] at s6
  have s6 := st_recast (L' := .row (.slice (some ⟨g2, 0, none⟩) P.length c2) 9 1 P.length ((P.set at' (filledL d)).flatMap strE) :: .blk (z + 1) #[.slice none 0 0, .slice none 0 0] 51 :: .blk z #[.slice (some ⟨g2, 0, none⟩) P.length c2, .slice a0 n0 c0] 51 :: L) s6 rfl
  generalize w5.setCell ⟨g2, at', none⟩ (.string (ofL (filledL d))) = w6 at s6 ⊢
  have r6 := s6.rules 2 rfl
  have r6' := s6.rules 1 rfl
  simp (disch := first | omega | exact okFill_t rfl | exact okSize_t rfl | exact fun h => h | (simp only [World.size_alloc, World.size_drew, World.size_setCell, size_fill, bytesW]; omega)) only [go_sem, c45, c45S0, c45S1, r6, r6']
  refine ⟨_, rfl, ?_⟩
  have s7 := s6.fill 1 rfl (cs := #[.slice (some ⟨g2, 0, none⟩) P.length c2, .slice a0 n0 c0]) rfl
  have s8 := s7.sub (L' := .row (.slice (some ⟨g2, 0, none⟩) P.length c2) 9 1 P.length ((P.set at' (filledL d)).flatMap strE) :: L) (List.Sublist.cons_cons _ ((List.sublist_cons_self ..).trans (List.sublist_cons_self ..)))
  have s9 := s8.seal (.rd 1 strE (.slice (some ⟨g2, 0, none⟩) P.length c2) (P.set at' (filledL d))) (RdS.of_own' (s8.row 0 rfl) _ (by rw [List.length_set]) rfl) fun k hk => slFoot_own hk
  exact s9.inv_sub fun a ha => by
    rcases List.mem_cons.1 ha with rfl | ha
    · exact List.mem_cons_self
    · exact List.mem_cons_of_mem _ (List.mem_cons_of_mem _ ha)
theorem page0 (h : St W0 w F L (.rd 1 strE vn P :: I)) {i : Nat} (hi : i < P.length) : ∃ ad c, vn = .slice (some ad) P.length c ∧ w.cell? (ad.add i) = some (.string (ofL (P.getD i []))) := by
  obtain ⟨a, c, rfl, hac⟩ := (h.rd 0 rfl).form
  obtain ⟨ad, rfl⟩ := (h.rd 0 rfl).ptr (by omega)
  refine ⟨ad, c, rfl, ?_⟩
  rw [RdS.at1 (e1 := fun s => .string (ofL s)) (h.rd 0 rfl) hi, List.getD_eq_getElem?_getD, List.getElem?_eq_getElem hi]
  rfl
theorem pageU (h : St W0 w F L (.rd 1 strE vn P :: I)) (hi : 0 < P.length) : ∃ ad c, vn = .slice (some ad) P.length c ∧ ∀ w1 L1, St W0 w1 F L1 (.rd 1 strE (.slice (some ad) P.length c) P :: I) → w1.cell? ad = some (.string (ofL (usedP P))) := by
  obtain ⟨ad, c, rfl, _⟩ := page0 h hi
  refine ⟨ad, c, rfl, fun w1 L1 h1 => ?_⟩
  obtain ⟨ad', c', he, e1⟩ := page0 h1 hi
  simp only [Value.slice.injEq, Option.some.injEq, true_and] at he
  obtain ⟨rfl, rfl⟩ := he
  have e : ad.add 0 = ad := by cases ad; rfl
  rwa [e] at e1
theorem usedP_256 (hp : Pages P) : (usedP P).length = 256 := hp.at (by have := hp.three; omega)
theorem rset_ok (i : Int) (b : Bool) (h : St W0 w F L (.rd 1 strE vn P :: I)) (hp : Pages P) (hi : I64 i) :
    Ret Tryz.prog 73 [.agg #[vn, .slice a0 n0 c0], .int .i64 i, .bool b] w fun u w' => ∃ vn', u = .agg #[vn', .slice a0 n0 c0] ∧ St W0 w' F L (.rd 1 strE vn' (markP P i b) :: I) := by
  have h3 := hp.three
  have h0 : (0 : Int) < P.length := by omega
  have hu := usedP_256 hp
  obtain ⟨ad, c, rfl, eu⟩ := pageU h (by omega)
  refine ent73 _ _ _ _ _ ?_
  have s1 := (h.box #[.slice (some ad) P.length c, .slice a0 n0 c0] 51).box #[.slice none 0 0, .slice none 0 0] 51
  simp only [World.size_alloc] at s1
  simp (disch := first | omega | exact okFill_t rfl | exact okSize_t rfl | exact fun h => h | (simp only [World.size_alloc, World.size_drew, World.size_setCell, size_fill, bytesW]; omega)) only [go_sem, c73, c73S0, c73S1]
  generalize ((w.alloc (.cells #[.slice (some ad) P.length c, .slice a0 n0 c0] 51)).alloc (.cells #[.slice none 0 0, .slice none 0 0] 51)) = w1 at s1 ⊢
  generalize w.heap.size = z at s1 ⊢
  have r1 := s1.rules 1 rfl
  have e1 := eu _ _ s1
  simp (disch := first | omega | exact okFill_t rfl | exact okSize_t rfl | exact fun h => h | (simp only [World.size_alloc, World.size_drew, World.size_setCell, size_fill, bytesW]; omega)) only [go_sem, c73, c73S0, c73S1, r1, e1, h0]
  refine Ret.mono (rwith_ok (usedP P) i b w1 hi (by omega)) ?_
  rintro _ w2 ⟨rfl, b2⟩
  have s2 := s1.call b2
  have r2 := s2.rules 1 rfl
  simp (disch := first | omega | exact okFill_t rfl | exact okSize_t rfl | exact fun h => h | (simp only [World.size_alloc, World.size_drew, World.size_setCell, size_fill, bytesW]; omega)) only [go_sem, c73, c73S0, c73S1, r2]
  have hz : (0 : Int) = ((0 : Nat) : Int) := rfl
  refine Ret.mono (rput_ok 0 (withL (usedP P) i b) s2 hp (by omega) (by rw [withL_length, hu]; decide)) ?_
  rintro _ w3 ⟨vn', rfl, s3⟩
  have r3 := s3.rules 0 rfl
  obtain ⟨a3, c3, rfl, _⟩ := (s3.rd 0 rfl).form
  simp (disch := first | omega | exact okFill_t rfl | exact okSize_t rfl | exact fun h => h | (simp only [World.size_alloc, World.size_drew, World.size_setCell, size_fill, bytesW]; omega)) only [go_sem, c73, c73S0, c73S1, r3]
  refine ⟨_, rfl, ?_⟩
  exact (s3.fill 0 rfl (cs := #[.slice a3 (P.set 0 (filledL (withL (usedP P) i b))).length c3, .slice a0 n0 c0]) rfl).sub ((List.sublist_cons_self ..).trans (List.sublist_cons_self ..))
theorem rgiven_ok (i : Int) (h : St W0 w F L (.rd 1 strE vn P :: I)) (hp : Pages P) (hi : I64 i) :
    Ret Tryz.prog 74 [.agg #[vn, .slice a0 n0 c0], .int .i64 i] w fun u w' => u = .bool (decide (chkN P i = 0)) ∧ St W0 w' F L (.rd 1 strE vn P :: I) := by
  have h3 := hp.three
  have h0 : (0 : Int) < P.length := by omega
  obtain ⟨ad, c, rfl, eu⟩ := pageU h (by omega)
  refine ent74 _ _ _ _ ?_
  have s1 := (h.box #[.slice (some ad) P.length c, .slice a0 n0 c0] 51)
  simp (disch := first | omega | exact okFill_t rfl | exact okSize_t rfl | exact fun h => h | (simp only [World.size_alloc, World.size_drew, World.size_setCell, size_fill, bytesW]; omega)) only [go_sem, c74, c74S0]
  generalize ((w.alloc (.cells #[.slice (some ad) P.length c, .slice a0 n0 c0] 51))) = w1 at s1 ⊢
  generalize w.heap.size = z at s1 ⊢
  have r1 := s1.rules 0 rfl
  have e1 := eu _ _ s1
  have fin : St W0 w1 F L (.rd 1 strE (.slice (some ad) P.length c) P :: I) := s1.sub (List.sublist_cons_self ..)
  by_cases h2 : 2 ≤ i
  · by_cases hlt : i < P.length
    · simp (disch := first | omega | exact okFill_t rfl | exact okSize_t rfl | exact fun h => h | (simp only [World.size_alloc, World.size_drew, World.size_setCell, size_fill, bytesW]; omega)) only [go_sem, c74, c74S0, r1, e1, h0, h2, hlt]
      refine ⟨⟨?_, fun hx => absurd hx (by omega)⟩, fun hx => absurd hx (by omega)⟩
      refine Ret.mono (rhas_ok (usedP P) i w1 hi) ?_
      rintro _ _ ⟨rfl, rfl⟩
      simp (disch := first | omega | exact okFill_t rfl | exact okSize_t rfl | exact fun h => h | (simp only [World.size_alloc, World.size_drew, World.size_setCell, size_fill, bytesW]; omega)) only [go_sem, c74, c74S0]
      refine ⟨?_, fin⟩
      unfold chkN
      by_cases hh : hasL (usedP P) i = true
      · rw [if_pos ⟨h2, hlt, hh⟩, hh]; rfl
      · rw [if_neg (fun x => hh x.2.2)]
        simpa using hh
    · simp (disch := first | omega | exact okFill_t rfl | exact okSize_t rfl | exact fun h => h | (simp only [World.size_alloc, World.size_drew, World.size_setCell, size_fill, bytesW]; omega)) only [go_sem, c74, c74S0, r1, e1, h0, h2, hlt]
      refine ⟨fun _ => ⟨?_, fin⟩, fun hx => absurd hx (by omega)⟩
      unfold chkN
      rw [if_neg (fun x => hlt x.2.1)]; rfl
  · simp (disch := first | omega | exact okFill_t rfl | exact okSize_t rfl | exact fun h => h | (simp only [World.size_alloc, World.size_drew, World.size_setCell, size_fill, bytesW]; omega)) only [go_sem, c74, c74S0, h2]
    intro _
    refine ⟨?_, fin⟩
    unfold chkN
    rw [if_neg (fun x => h2 x.1)]; rfl
end
end Go.Proofs.YtmchjbgobiagiaaGreat

namespace Go.Proofs.YtmchjbgobiagiaaGreat
set_option linter.unusedSimpArgs false
set_option linter.unusedVariables false
set_option maxRecDepth 100000
open Go Go.Ann Go.RowKit Go.WideShapes
section
variable {W0 w : World} {F : Nat → Prop} {L : List Res} {I : List Inv} {P : List (List UInt8)} {vn : Value} {a0 : Option Addr} {n0 c0 : Nat}
theorem fmt_eq07 : filledL [3] = filledL fmtU := by decide +kernel
theorem rformat_ok (h : St W0 w F L (.rd 1 strE vn P :: I)) (hp : Pages P) :
    Ret Tryz.prog 19 [.agg #[vn, .slice a0 n0 c0]] w fun u w' => ∃ vn', u = .tuple #[.agg #[vn', .slice a0 n0 c0], .int .i64 0] ∧ St W0 w' F L (.rd 1 strE vn' (fmtP P) :: I) := by
  have h3 := hp.three
  have h0 : (0 : Int) < P.length := by omega
  have h1 : (1 : Int) < P.length := by omega
  obtain ⟨ad, c, rfl, eu⟩ := pageU h (by omega)
  refine ent19 _ _ _ ?_
  have s1 := (h.box #[.slice (some ad) P.length c, .slice a0 n0 c0] 51).box #[.slice none 0 0, .slice none 0 0] 51
  simp only [World.size_alloc] at s1
  simp (disch := first | omega | exact okFill_t rfl | exact okSize_t rfl | exact fun h => h | (simp only [World.size_alloc, World.size_drew, World.size_setCell, size_fill, bytesW]; omega)) only [go_sem, c19, c19S0, c19S1]
  generalize ((w.alloc (.cells #[.slice (some ad) P.length c, .slice a0 n0 c0] 51)).alloc (.cells #[.slice none 0 0, .slice none 0 0] 51)) = w1 at s1 ⊢
  generalize w.heap.size = z at s1 ⊢
  have r1 := s1.rules 1 rfl
  have q1 := s1.rules 0 rfl
  have hl3 : ¬ (P.length : Int) < 3 := by omega
  simp (disch := first | omega | exact okFill_t rfl | exact okSize_t rfl | exact fun h => h | (simp only [World.size_alloc, World.size_drew, World.size_setCell, size_fill, bytesW]; omega)) only [go_sem, c19, c19S0, c19S1, r1, hl3]
  intro _
  refine Ret.mono (rput_ok 0 [3] s1 hp (by omega) (by decide)) ?_
  rintro _ w2 ⟨v2, rfl, s2⟩
  obtain ⟨a2, c2, rfl, _⟩ := (s2.rd 0 rfl).form
  have p2 := hp.set 0 (l := filledL [3]) (by decide)
  simp (disch := first | omega | exact okFill_t rfl | exact okSize_t rfl | exact fun h => h | (simp only [World.size_alloc, World.size_drew, World.size_setCell, size_fill, bytesW]; omega)) only [go_sem, c19, c19S0, c19S1]
  refine Ret.mono (rput_ok 1 [] s2 p2 (by rw [List.length_set]; omega) (by decide)) ?_
  rintro _ w3 ⟨v3, rfl, s3⟩
  obtain ⟨a3, c3, rfl, _⟩ := (s3.rd 0 rfl).form
  have q3 := s3.rules 0 rfl
  simp (disch := first | omega | exact okFill_t rfl | exact okSize_t rfl | exact fun h => h | (simp only [World.size_alloc, World.size_drew, World.size_setCell, size_fill, bytesW]; omega)) only [go_sem, c19, c19S0, c19S1, q3]
  refine ⟨_, rfl, ?_⟩
  rw [fmt_eq07] at s3 ⊢
  exact (s3.fill 0 rfl (cs := #[.slice a3 (((P.set 0 (filledL fmtU)).set 1 (filledL [])).length) c3, .slice a0 n0 c0]) rfl).sub ((List.sublist_cons_self ..).trans (List.sublist_cons_self ..))
theorem rfree_ok (i : Int) (h : St W0 w F L (.rd 1 strE vn P :: I)) (hp : Pages P) (hi : I64 i) :
    Ret Tryz.prog 47 [.agg #[vn, .slice a0 n0 c0], .int .i64 i] w fun u w' => ∃ vn', u = .tuple #[.agg #[vn', .slice a0 n0 c0], .int .i64 (freeN P i).2] ∧ St W0 w' F L (.rd 1 strE vn' (freeN P i).1 :: I) := by
  have h3 := hp.three
  have h0 : (0 : Int) < P.length := by omega
  have h1 : (1 : Int) < P.length := by omega
  obtain ⟨ad, c, rfl, eu⟩ := pageU h (by omega)
  refine ent47 _ _ _ _ ?_
  have s1 := (h.box #[.slice (some ad) P.length c, .slice a0 n0 c0] 51).box #[.slice none 0 0, .slice none 0 0] 51
  simp only [World.size_alloc] at s1
  simp (disch := first | omega | exact okFill_t rfl | exact okSize_t rfl | exact fun h => h | (simp only [World.size_alloc, World.size_drew, World.size_setCell, size_fill, bytesW]; omega)) only [go_sem, c47, c47S0, c47S1, c47S2]
  generalize ((w.alloc (.cells #[.slice (some ad) P.length c, .slice a0 n0 c0] 51)).alloc (.cells #[.slice none 0 0, .slice none 0 0] 51)) = w1 at s1 ⊢
  generalize w.heap.size = z at s1 ⊢
  have r1 := s1.rules 1 rfl
  have q1 := s1.rules 0 rfl
  refine Ret.mono (rgiven_ok i s1 hp hi) ?_
  rintro _ w2 ⟨rfl, s2⟩
  have r2 := s2.rules 1 rfl
  have q2 := s2.rules 0 rfl
  unfold freeN
  by_cases hc : chkN P i = 0
  · rw [if_neg (by omega)]
    have hc' : decide (chkN P i = 0) = true := by simpa using hc
    rw [hc']
    simp (disch := first | omega | exact okFill_t rfl | exact okSize_t rfl | exact fun h => h | (simp only [World.size_alloc, World.size_drew, World.size_setCell, size_fill, bytesW]; omega)) only [go_sem, c47, c47S0, c47S1, c47S2, r2]
    refine Ret.mono (rset_ok i false s2 hp hi) ?_
    rintro _ w3 ⟨v3, rfl, s3⟩
    obtain ⟨a3, c3, rfl, _⟩ := (s3.rd 0 rfl).form
    have q3 := s3.rules 0 rfl
    simp (disch := first | omega | exact okFill_t rfl | exact okSize_t rfl | exact fun h => h | (simp only [World.size_alloc, World.size_drew, World.size_setCell, size_fill, bytesW]; omega)) only [go_sem, c47, c47S0, c47S1, c47S2, q3]
    exact ⟨_, rfl, (s3.fill 0 rfl (cs := #[.slice a3 (markP P i false).length c3, .slice a0 n0 c0]) rfl).sub ((List.sublist_cons_self ..).trans (List.sublist_cons_self ..))⟩
  · rw [if_pos hc]
    have hc' : decide (chkN P i = 0) = false := by simpa using hc
    have h6 : chkN P i = 6 := by unfold chkN at hc ⊢; split <;> simp_all
    rw [hc', h6]
    simp (disch := first | omega | exact okFill_t rfl | exact okSize_t rfl | exact fun h => h | (simp only [World.size_alloc, World.size_drew, World.size_setCell, size_fill, bytesW]; omega)) only [go_sem, c47, c47S0, c47S1, c47S2, r2, q2]
    exact ⟨_, rfl, (s2.fill 0 rfl (cs := #[.slice (some ad) P.length c, .slice a0 n0 c0]) rfl).sub ((List.sublist_cons_self ..).trans (List.sublist_cons_self ..))⟩
theorem rget_ok (i : Int) (h : St W0 w F L (.rd 1 strE vn P :: I)) (hp : Pages P) (hi : I64 i) :
    Ret Tryz.prog 48 [.agg #[vn, .slice a0 n0 c0], .int .i64 i] w fun u w' => u = .tuple #[.string (ofL (getN P i).1), .int .i64 (getN P i).2] ∧ St W0 w' F L (.rd 1 strE vn P :: I) := by
  have h3 := hp.three
  have h0 : (0 : Int) < P.length := by omega
  have h1 : (1 : Int) < P.length := by omega
  obtain ⟨ad, c, rfl, eu⟩ := pageU h (by omega)
  refine ent48 _ _ _ _ ?_
  have s1 := (h.box #[.slice (some ad) P.length c, .slice a0 n0 c0] 51)
  simp (disch := first | omega | exact okFill_t rfl | exact okSize_t rfl | exact fun h => h | (simp only [World.size_alloc, World.size_drew, World.size_setCell, size_fill, bytesW]; omega)) only [go_sem, c48, c48S0, c48S1]
  generalize ((w.alloc (.cells #[.slice (some ad) P.length c, .slice a0 n0 c0] 51))) = w1 at s1 ⊢
  generalize w.heap.size = z at s1 ⊢
  have r1 := s1.rules 0 rfl
  refine Ret.mono (rgiven_ok i s1 hp hi) ?_
  rintro _ w2 ⟨rfl, s2⟩
  have r2 := s2.rules 0 rfl
  unfold getN
  by_cases hc : chkN P i = 0
  · rw [if_neg (by omega)]
    have hc' : decide (chkN P i = 0) = true := by simpa using hc
    obtain ⟨i0, i1⟩ := chk_in hc
    obtain ⟨n, rfl⟩ := Int.eq_ofNat_of_zero_le (show 0 ≤ i by omega)
    obtain ⟨ad', c', he, e2⟩ := page0 s2 (i := n) (by omega)
    simp only [Value.slice.injEq, Option.some.injEq, true_and] at he
    obtain ⟨rfl, rfl⟩ := he
    rw [hc']
    simp (disch := first | omega | exact okFill_t rfl | exact okSize_t rfl | exact fun h => h | (simp only [World.size_alloc, World.size_drew, World.size_setCell, size_fill, bytesW]; omega)) only [go_sem, c48, c48S0, c48S1, r2, i1, e2]
    exact ⟨by omega, s2.sub (List.sublist_cons_self ..)⟩
  · rw [if_pos hc]
    have hc' : decide (chkN P i = 0) = false := by simpa using hc
    have h6 : chkN P i = 6 := by unfold chkN at hc ⊢; split <;> simp_all
    rw [hc', h6]
    simp (disch := first | omega | exact okFill_t rfl | exact okSize_t rfl | exact fun h => h | (simp only [World.size_alloc, World.size_drew, World.size_setCell, size_fill, bytesW]; omega)) only [go_sem, c48, c48S0, c48S1, r2]
    exact s2.sub (List.sublist_cons_self ..)
theorem rsetp_ok (i : Int) (d : List UInt8) (h : St W0 w F L (.rd 1 strE vn P :: I)) (hp : Pages P) (hi : I64 i) :
    Ret Tryz.prog 49 [.agg #[vn, .slice a0 n0 c0], .int .i64 i, .string (ofL d)] w fun u w' => ∃ vn', u = .tuple #[.agg #[vn', .slice a0 n0 c0], .int .i64 (setPN P i d).2] ∧ St W0 w' F L (.rd 1 strE vn' (setPN P i d).1 :: I) := by
  have h3 := hp.three
  have h0 : (0 : Int) < P.length := by omega
  have h1 : (1 : Int) < P.length := by omega
  obtain ⟨ad, c, rfl, eu⟩ := pageU h (by omega)
  refine ent49 _ _ _ _ _ ?_
  have s1 := (h.box #[.slice (some ad) P.length c, .slice a0 n0 c0] 51).box #[.slice none 0 0, .slice none 0 0] 51
  simp only [World.size_alloc] at s1
  simp (disch := first | omega | exact okFill_t rfl | exact okSize_t rfl | exact fun h => h | (simp only [World.size_alloc, World.size_drew, World.size_setCell, size_fill, bytesW]; omega)) only [go_sem, c49, c49S0, c49S1, c49S2, c49S3]
  generalize ((w.alloc (.cells #[.slice (some ad) P.length c, .slice a0 n0 c0] 51)).alloc (.cells #[.slice none 0 0, .slice none 0 0] 51)) = w1 at s1 ⊢
  generalize w.heap.size = z at s1 ⊢
  have r1 := s1.rules 1 rfl
  have q1 := s1.rules 0 rfl
  refine Ret.mono (rgiven_ok i s1 hp hi) ?_
  rintro _ w2 ⟨rfl, s2⟩
  have r2 := s2.rules 1 rfl
  have q2 := s2.rules 0 rfl
  unfold setPN
  by_cases hc : chkN P i = 0
  · rw [if_neg (by omega)]
    have hc' : decide (chkN P i = 0) = true := by simpa using hc
    obtain ⟨i0, i1⟩ := chk_in hc
    obtain ⟨n, rfl⟩ := Int.eq_ofNat_of_zero_le (show 0 ≤ i by omega)
    rw [hc']
    by_cases hd : 256 < d.length
    · rw [if_pos hd]
      have hd' : (256 : Int) < d.length := by omega
      simp (disch := first | omega | exact okFill_t rfl | exact okSize_t rfl | exact fun h => h | (simp only [World.size_alloc, World.size_drew, World.size_setCell, size_fill, bytesW]; omega)) only [go_sem, c49, c49S0, c49S1, c49S2, c49S3, r2, q2, hd']
      exact ⟨_, rfl, (s2.fill 0 rfl (cs := #[.slice (some ad) P.length c, .slice a0 n0 c0]) rfl).sub ((List.sublist_cons_self ..).trans (List.sublist_cons_self ..))⟩
    · rw [if_neg hd]
      have hd' : ¬ (256 : Int) < d.length := by omega
      simp (disch := first | omega | exact okFill_t rfl | exact okSize_t rfl | exact fun h => h | (simp only [World.size_alloc, World.size_drew, World.size_setCell, size_fill, bytesW]; omega)) only [go_sem, c49, c49S0, c49S1, c49S2, c49S3, r2, hd']
      refine Ret.mono (rput_ok n d s2 hp (by omega) (by omega)) ?_
      rintro _ w3 ⟨v3, rfl, s3⟩
      obtain ⟨a3, c3, rfl, _⟩ := (s3.rd 0 rfl).form
      have q3 := s3.rules 0 rfl
      simp (disch := first | omega | exact okFill_t rfl | exact okSize_t rfl | exact fun h => h | (simp only [World.size_alloc, World.size_drew, World.size_setCell, size_fill, bytesW]; omega)) only [go_sem, c49, c49S0, c49S1, c49S2, c49S3, q3]
      exact ⟨_, rfl, (s3.fill 0 rfl (cs := #[.slice a3 (P.set n (filledL d)).length c3, .slice a0 n0 c0]) rfl).sub ((List.sublist_cons_self ..).trans (List.sublist_cons_self ..))⟩
  · rw [if_pos hc]
    have hc' : decide (chkN P i = 0) = false := by simpa using hc
    have h6 : chkN P i = 6 := by unfold chkN at hc ⊢; split <;> simp_all
    rw [hc', h6]
    simp (disch := first | omega | exact okFill_t rfl | exact okSize_t rfl | exact fun h => h | (simp only [World.size_alloc, World.size_drew, World.size_setCell, size_fill, bytesW]; omega)) only [go_sem, c49, c49S0, c49S1, c49S2, c49S3, r2, q2]
    exact ⟨_, rfl, (s2.fill 0 rfl (cs := #[.slice (some ad) P.length c, .slice a0 n0 c0]) rfl).sub ((List.sublist_cons_self ..).trans (List.sublist_cons_self ..))⟩
end
end Go.Proofs.YtmchjbgobiagiaaGreat

namespace Go.Proofs.YtmchjbgobiagiaaGreat
set_option linter.unusedSimpArgs false
set_option linter.unusedVariables false
set_option maxRecDepth 100000
open Go Go.Ann Go.RowKit Go.WideShapes
theorem rsame_ok (x y : List (List UInt8)) (va vc : Value) (w : World) (ha : RdS w 1 strE va x) (hb : RdS w 1 strE vc y) (h1 : (x.length : Int) ≤ 9223372036854775807) :
    Ret Tryz.prog 25 [va, vc] w fun u w' => u = .bool (decide (x = y)) ∧ Below w.heap.size w w' := by
  obtain ⟨a, c, rfl, hac⟩ := ha.form
  obtain ⟨a', c', rfl, hac'⟩ := hb.form
  refine ent25 _ _ _ _ ?_
  simp (disch := first | omega | exact okFill_t rfl | exact okSize_t rfl | exact fun h => h | (simp only [World.size_alloc, World.size_drew, World.size_setCell, size_fill, bytesW]; omega)) only [go_sem, c25, c25S0, c25S1, c25S2, c25S3, c25S4]
  refine ⟨fun h => ⟨by rw [eq_comm, decide_eq_false_iff_not]; intro e; rw [e] at h; exact h rfl, Below.refl _ _⟩, fun hlen => ?_⟩
  have hlen : x.length = y.length := by omega
  refine W_loopU (fun k : Nat => [(5, .int .i64 k)]) (fun k w' => k ≤ x.length ∧ x.take k = y.take k ∧ Below w.heap.size w w') (fun k => x.length - k) 0 rfl ⟨Nat.zero_le _, by simp, Below.refl _ _⟩ ?_
  rintro k w1 ⟨hk, hpre, b1⟩
  by_cases hlt : k < x.length
  · have hlt' : (k : Int) < x.length := by omega
    have hlt2 : k < y.length := by omega
    have hlt2' : (k : Int) < y.length := by omega
    obtain ⟨p, rfl⟩ := ha.ptr (by omega)
    obtain ⟨q, rfl⟩ := hb.ptr (by omega)
    have eX := RdS.at1 (e1 := fun s => .string (ofL s)) (ha.below (b1.drew) (by decide)) hlt
    have eY := RdS.at1 (e1 := fun s => .string (ofL s)) (hb.below (b1.drew) (by decide)) hlt2
    simp (disch := first | omega | exact okFill_t rfl | exact okSize_t rfl | exact fun h => h | (simp only [World.size_alloc, World.size_drew, World.size_setCell, size_fill, bytesW]; omega)) only [go_sem, c25, c25S0, c25S1, c25S2, c25L0, c25S3, c25S4, c25L0, hlt', hlt2']
    refine c25draw0 ?_
    generalize hw : w1.drew = w2 at eX eY
    have b2 : Below w.heap.size w w2 := hw ▸ b1.drew
    simp (disch := first | omega | exact okFill_t rfl | exact okSize_t rfl | exact fun h => h | (simp only [World.size_alloc, World.size_drew, World.size_setCell, size_fill, bytesW]; omega)) only [go_sem, c25, c25S0, c25S1, c25S2, c25L0, c25S3, c25S4, c25D0, hlt', hlt2', eX, eY]
    refine ⟨by omega, by omega, fun h => ⟨?_, b2⟩, fun h => ⟨by constructor <;> omega, k + 1, rfl, ⟨by omega, ?_, b2⟩, by omega⟩⟩
    · rw [eq_comm, decide_eq_false_iff_not]
      intro e
      have h' := of_decide_eq_true h
      subst e
      exact h' rfl
    · have h' : x[k] = y[k] := Decidable.not_not.1 (of_decide_eq_false h)
      rw [List.take_succ_eq_append_getElem hlt, List.take_succ_eq_append_getElem hlt2, hpre, h']
  · have hlt' : ¬ (k : Int) < x.length := by omega
    simp (disch := first | omega | exact okFill_t rfl | exact okSize_t rfl | exact fun h => h | (simp only [World.size_alloc, World.size_drew, World.size_setCell, size_fill, bytesW]; omega)) only [go_sem, c25, c25S0, c25S1, c25S2, c25L0, c25S3, c25S4, c25L0, hlt']
    rw [List.take_of_length_le (by omega), List.take_of_length_le (by omega)] at hpre
    exact ⟨by rw [hpre]; simp, b1⟩
section
variable {W0 w : World} {F : Nat → Prop} {L : List Res} {I : List Inv} {P : List (List UInt8)} {vn : Value} {a0 : Option Addr} {n0 c0 : Nat}
theorem ralloc_ok (h : St W0 w F L (.rd 1 strE vn P :: I)) (hp : Pages P) :
    Ret Tryz.prog 46 [.agg #[vn, .slice a0 n0 c0]] w fun u w' => ∃ vn', u = .tuple #[.agg #[vn', .slice a0 n0 c0], .int .i64 (allocN P).2.1, .int .i64 (allocN P).2.2] ∧ St W0 w' F L (.rd 1 strE vn' (allocN P).1 :: I) := by
  have h3 := hp.three
  have h0 : (0 : Int) < P.length := by omega
  have h1 : (1 : Int) < P.length := by omega
  obtain ⟨ad, c, rfl, eu⟩ := pageU h (by omega)
  refine ent46 _ _ _ ?_
  have s1 := (h.box #[.slice (some ad) P.length c, .slice a0 n0 c0] 51).box #[.slice none 0 0, .slice none 0 0] 51
  simp only [World.size_alloc] at s1
  simp (disch := first | omega | exact okFill_t rfl | exact okSize_t rfl | exact fun h => h | (simp only [World.size_alloc, World.size_drew, World.size_setCell, size_fill, bytesW]; omega)) only [go_sem, c46, c46S0, c46S1, c46S2, c46S3, c46S4]
  generalize ((w.alloc (.cells #[.slice (some ad) P.length c, .slice a0 n0 c0] 51)).alloc (.cells #[.slice none 0 0, .slice none 0 0] 51)) = w1 at s1 ⊢
  generalize w.heap.size = z at s1 ⊢
  have r1 := s1.rules 1 rfl
  have q1 := s1.rules 0 rfl
  have e1 := eu _ _ s1
  refine W_loopU (fun k : Nat => [(5, .int .i64 k)]) (fun k w' => w' = w1 ∧ 2 ≤ k ∧ k ≤ P.length ∧ ∀ j, 2 ≤ j → j < k → hasL (usedP P) j = true) (fun k => P.length - k) 2 rfl ⟨rfl, Nat.le_refl _, by omega, fun j _ _ => by omega⟩ ?_
  rintro k w2 ⟨rfl, hk2, hkl, hall⟩
  have h64 := hp.few
  by_cases hlt : k < P.length
  · have hlt' : (k : Int) < P.length := by omega
    simp (disch := first | omega | exact okFill_t rfl | exact okSize_t rfl | exact fun h => h | (simp only [World.size_alloc, World.size_drew, World.size_setCell, size_fill, bytesW]; omega)) only [go_sem, c46, c46S0, c46S1, c46S2, c46S3, c46L0, c46S4, c46L0, r1, hlt', e1, h0]
    refine Ret.mono (rhas_ok (usedP P) k _ (by constructor <;> omega)) ?_
    rintro _ _ ⟨rfl, rfl⟩
    by_cases hh : hasL (usedP P) k = true
    · rw [hh]
      simp (disch := first | omega | exact okFill_t rfl | exact okSize_t rfl | exact fun h => h | (simp only [World.size_alloc, World.size_drew, World.size_setCell, size_fill, bytesW]; omega)) only [go_sem, c46, c46S0, c46S1, c46S2, c46S3, c46L0, c46S4]
      refine ⟨by constructor <;> omega, k + 1, rfl, ⟨by omega, by omega, fun j h2 hj => ?_⟩, by omega⟩
      by_cases hjk : j = k
      · subst hjk; exact hh
      · exact hall j h2 (by omega)
    · have hh' : hasL (usedP P) k = false := by simpa using hh
      have hlow : lowP P = some k := by
        unfold lowP
        rw [List.find?_range_eq_some]
        refine ⟨by rw [hh']; simp; omega, by rw [List.mem_range]; exact hlt, fun j hj => ?_⟩
        by_cases h2j : 2 ≤ j
        · rw [hall j h2j hj]; simp
        · simp [h2j]
      have ea : allocN P = (emptyP (markP P k true) k, (k : Int), 0) := by unfold allocN; rw [hlow]
      rw [hh']
      simp (disch := first | omega | exact okFill_t rfl | exact okSize_t rfl | exact fun h => h | (simp only [World.size_alloc, World.size_drew, World.size_setCell, size_fill, bytesW]; omega)) only [go_sem, c46, c46S0, c46S1, c46S2, c46S3, c46L0, c46S4, r1]
      refine Ret.mono (rset_ok k true s1 hp (by constructor <;> omega)) ?_
      rintro _ w3 ⟨v3, rfl, s3⟩
      obtain ⟨a3, c3, rfl, _⟩ := (s3.rd 0 rfl).form
      have hml : (markP P k true).length = P.length := by unfold markP; rw [List.length_set]
      have p3 : Pages (markP P k true) := by
        unfold markP
        refine hp.set 0 (filledL_length ?_)
        rw [withL_length, usedP_256 hp]; decide
      simp (disch := first | omega | exact okFill_t rfl | exact okSize_t rfl | exact fun h => h | (simp only [World.size_alloc, World.size_drew, World.size_setCell, size_fill, bytesW]; omega)) only [go_sem, c46, c46S0, c46S1, c46S2, c46S3, c46L0, c46S4]
      refine Ret.mono (rput_ok k [] s3 p3 (by omega) (by decide)) ?_
      rintro _ w4 ⟨v4, rfl, s4⟩
      obtain ⟨a4, c4, rfl, _⟩ := (s4.rd 0 rfl).form
      have q4 := s4.rules 0 rfl
      simp (disch := first | omega | exact okFill_t rfl | exact okSize_t rfl | exact fun h => h | (simp only [World.size_alloc, World.size_drew, World.size_setCell, size_fill, bytesW]; omega)) only [go_sem, c46, c46S0, c46S1, c46S2, c46S3, c46L0, c46S4, q4]
      rw [ea]
      exact ⟨_, rfl, (s4.fill 0 rfl (cs := #[.slice a4 (((markP P k true).set k (filledL [])).length) c4, .slice a0 n0 c0]) rfl).sub ((List.sublist_cons_self ..).trans (List.sublist_cons_self ..))⟩
  · have hlt' : ¬ (k : Int) < P.length := by omega
    obtain rfl : k = P.length := by omega
    have hlow : lowP P = none := by
      unfold lowP
      rw [List.find?_eq_none]
      intro j hj
      rw [List.mem_range] at hj
      by_cases h2j : 2 ≤ j
      · rw [hall j h2j hj]; simp
      · simp [h2j]
    have ea : allocN P = (P, 0, 13) := by unfold allocN; rw [hlow]
    simp (disch := first | omega | exact okFill_t rfl | exact okSize_t rfl | exact fun h => h | (simp only [World.size_alloc, World.size_drew, World.size_setCell, size_fill, bytesW]; omega)) only [go_sem, c46, c46S0, c46S1, c46S2, c46S3, c46L0, c46S4, c46L0, r1, hlt', q1]
    rw [ea]
    exact ⟨_, rfl, (s1.fill 0 rfl (cs := #[.slice (some ad) P.length c, .slice a0 n0 c0]) rfl).sub ((List.sublist_cons_self ..).trans (List.sublist_cons_self ..))⟩
end
end Go.Proofs.YtmchjbgobiagiaaGreat

namespace Go.Proofs.YtmchjbgobiagiaaGreat
set_option linter.unusedSimpArgs false
set_option linter.unusedVariables false
set_option maxRecDepth 100000
open Go Go.Ann Go.RowKit Go.WideShapes
section
variable {W0 w : World} {F : Nat → Prop} {L : List Res} {I : List Inv} {P : List (List UInt8)} {vn : Value} {a0 : Option Addr} {n0 c0 : Nat}
theorem page1 (h : St W0 w F L (.rd 1 strE vn P :: I)) (hi : 1 < P.length) {ad : Addr} {c : Nat} (hv : vn = .slice (some ad) P.length c) : w.cell? (ad.add 1) = some (.string (ofL (rootB P))) := by
  obtain ⟨ad', c', he, e1⟩ := page0 h hi
  rw [hv] at he
  simp only [Value.slice.injEq, Option.some.injEq, true_and] at he
  obtain ⟨rfl, rfl⟩ := he
  exact e1
theorem rroot_ok (i : Int) (h : St W0 w F L (.rd 1 strE vn P :: I)) (hp : Pages P) (hi : I64 i) :
    Ret Tryz.prog 50 [.agg #[vn, .slice a0 n0 c0], .int .i64 i] w fun u w' => u = .tuple #[.int .i64 (rootN P i).1, .int .i64 (rootN P i).2] ∧ St W0 w' F L (.rd 1 strE vn P :: I) := by
  have h3 := hp.three
  have h0 : (0 : Int) < P.length := by omega
  have h1 : (1 : Int) < P.length := by omega
  obtain ⟨ad, c, rfl, eu⟩ := pageU h (by omega)
  refine ent50 _ _ _ _ ?_
  have hr : (rootB P).length = 256 := hp.at (by omega)
  have s1 := (h.box #[.slice (some ad) P.length c, .slice a0 n0 c0] 51)
  simp (disch := first | omega | exact okFill_t rfl | exact okSize_t rfl | exact fun h => h | (simp only [World.size_alloc, World.size_drew, World.size_setCell, size_fill, bytesW]; omega)) only [go_sem, c50, c50S0, c50S1, c50S2]
  generalize ((w.alloc (.cells #[.slice (some ad) P.length c, .slice a0 n0 c0] 51))) = w1 at s1 ⊢
  generalize w.heap.size = z at s1 ⊢
  have r1 := s1.rules 0 rfl
  have e1 := page1 s1 (by omega) rfl
  have fin : St W0 w1 F L (.rd 1 strE (.slice (some ad) P.length c) P :: I) := s1.sub (List.sublist_cons_self ..)
  unfold rootN
  by_cases c : 0 ≤ i ∧ i < 16
  case neg =>
    rw [if_neg c]
    by_cases c1 : i < 0
    · simp (disch := first | omega | exact okFill_t rfl | exact okSize_t rfl | exact fun h => h | (simp only [World.size_alloc, World.size_drew, World.size_setCell, size_fill, bytesW]; omega)) only [go_sem, c50, c50S0, c50S1, c50S2, c1]
      repeat' first | with_reducible apply And.intro | with_reducible intro hx
      all_goals first | exact fin | (exfalso; omega)
    · have c2 : (16 : Int) ≤ i := by omega
      simp (disch := first | omega | exact okFill_t rfl | exact okSize_t rfl | exact fun h => h | (simp only [World.size_alloc, World.size_drew, World.size_setCell, size_fill, bytesW]; omega)) only [go_sem, c50, c50S0, c50S1, c50S2, c1, c2]
      repeat' first | with_reducible apply And.intro | with_reducible intro hx
      all_goals first | exact fin | (exfalso; omega)
  rw [if_pos c]
  have c1 : ¬ i < 0 := by omega
  have c2 : ¬ (16 : Int) ≤ i := by omega
  have c3 : ¬ (P.length : Int) < 2 := by omega
  have e1 : w1.cell? ⟨ad.block, ad.off + 1, none⟩ = some (.string (ofL (rootB P))) := e1
  simp (disch := first | omega | exact okFill_t rfl | exact okSize_t rfl | exact fun h => h | (simp only [World.size_alloc, World.size_drew, World.size_setCell, size_fill, bytesW]; omega)) only [go_sem, c50, c50S0, c50S1, c50S2, c1, c2, c3, r1, e1, h1]
  intro _ _ _
  have hc : (cutL (rootB P) (4 * i) (4 * i + 4)).length = 4 := by
    unfold cutL; rw [List.length_drop, List.length_take, hr]; omega
  refine ⟨⟨by omega, by omega⟩, ⟨by omega, by omega⟩, ⟨by omega, by omega⟩, ⟨by omega, by omega, by omega⟩, Ret.mono (runfixed_ok _ w1 (by rw [hc]; omega)) ?_⟩
  rintro _ w3 ⟨rfl, e3⟩
  subst w3
  have hlt := unfixL_lt (cutL (rootB P) (4 * i) (4 * i + 4))
  rw [hc] at hlt
  have hlt : unfixL (cutL (rootB P) (4 * i) (4 * i + 4)) < 4294967296 := hlt
  simp (disch := first | omega | exact okFill_t rfl | exact okSize_t rfl | exact fun h => h | (simp only [World.size_alloc, World.size_drew, World.size_setCell, size_fill, bytesW]; omega)) only [go_sem, c50, c50S0, c50S1, c50S2]
  exact ⟨by constructor <;> omega, fin⟩
theorem rsetRoot_ok (i j : Int) (h : St W0 w F L (.rd 1 strE vn P :: I)) (hp : Pages P) (hi : I64 i) (hj : I64 j) :
    Ret Tryz.prog 51 [.agg #[vn, .slice a0 n0 c0], .int .i64 i, .int .i64 j] w fun u w' => ∃ vn', u = .tuple #[.agg #[vn', .slice a0 n0 c0], .int .i64 (setRootN P i j).2] ∧ St W0 w' F L (.rd 1 strE vn' (setRootN P i j).1 :: I) := by
  have h3 := hp.three
  have h64 := hp.few
  have h0 : (0 : Int) < P.length := by omega
  have h1 : (1 : Int) < P.length := by omega
  have hr : (rootB P).length = 256 := hp.at (by omega)
  obtain ⟨ad, c, rfl, eu⟩ := pageU h (by omega)
  refine ent51 _ _ _ _ _ ?_
  have s1 := (h.box #[.slice (some ad) P.length c, .slice a0 n0 c0] 51).box #[.slice none 0 0, .slice none 0 0] 51
  simp only [World.size_alloc] at s1
  simp (disch := first | omega | exact okFill_t rfl | exact okSize_t rfl | exact fun h => h | (simp only [World.size_alloc, World.size_drew, World.size_setCell, size_fill, bytesW]; omega)) only [go_sem, c51, c51S0, c51S1, c51S2, c51S3, c51S4]
  generalize ((w.alloc (.cells #[.slice (some ad) P.length c, .slice a0 n0 c0] 51)).alloc (.cells #[.slice none 0 0, .slice none 0 0] 51)) = w1 at s1 ⊢
  generalize w.heap.size = z at s1 ⊢
  refine Ret.mono (rroot_ok i s1 hp hi) ?_
  rintro _ w2 ⟨rfl, s2⟩
  have r2 := s2.rules 1 rfl
  have q2 := s2.rules 0 rfl
  unfold setRootN
  by_cases hc : (rootN P i).2 = 0
  case neg =>
    rw [if_pos hc]
    simp (disch := first | omega | exact okFill_t rfl | exact okSize_t rfl | exact fun h => h | (simp only [World.size_alloc, World.size_drew, World.size_setCell, size_fill, bytesW]; omega)) only [go_sem, c51, c51S0, c51S1, c51S2, c51S3, c51S4, hc, r2, q2]
    exact ⟨_, rfl, (s2.fill 0 rfl (cs := #[.slice (some ad) P.length c, .slice a0 n0 c0]) rfl).sub ((List.sublist_cons_self ..).trans (List.sublist_cons_self ..))⟩
  have hin : 0 ≤ i ∧ i < 16 := by
    unfold rootN at hc
    split at hc
    · assumption
    · cases hc
  rw [if_neg (by omega)]
  have fin : ∀ w', 0 ≤ j → j < 64 → St W0 w' F (.blk (z + 1) #[.slice none 0 0, .slice none 0 0] 51 :: .blk z #[.slice (some ad) P.length c, .slice a0 n0 c0] 51 :: L) (.rd 1 strE (.slice (some ad) P.length c) P :: I) → W Tryz.prog (c51S2 ()) [(1, .int .i64 i), (2, .int .i64 j), (3, .pointer (some ⟨z, 0, none⟩)), (6, .pointer (some ⟨z + 1, 0, none⟩))] w' (finQ Tryz.prog [.cell 6 51, .tmp 7] fun u w'' => ∃ vn', u = .tuple #[.agg #[vn', .slice a0 n0 c0], .int .i64 0] ∧ St W0 w'' F L (.rd 1 strE vn' (P.set 1 (filledL ((rootB P).take (4 * i).toNat ++ fixL j.toNat 4 ++ (rootB P).drop (4 * i + 4).toNat))) :: I)) := by
    intro w' j0 j1 s'
    have r' := s'.rules 1 rfl
    have e1 : w'.cell? ⟨ad.block, ad.off + 1, none⟩ = some (.string (ofL (rootB P))) := page1 s' (by omega) rfl
    simp (disch := first | omega | exact okFill_t rfl | exact okSize_t rfl | exact fun h => h | (simp only [World.size_alloc, World.size_drew, World.size_setCell, size_fill, bytesW]; omega)) only [go_sem, c51, c51S0, c51S1, c51S2, c51S3, c51S4, r', e1, h1]
    refine c51draw0 (Same (fun k => k = z) _) (Same.refl _ _) ?_
    have s5 := s'.drew
    generalize w'.drew = w5 at s5 ⊢
    have r5 := s5.rules 1 rfl
    obtain ⟨n, rfl⟩ := Int.eq_ofNat_of_zero_le j0
    have hwn : IntKind.u64.wrap (n : Int) = n := wrap_u64_id _ (by omega) (by omega)
    simp (disch := first | omega | exact okFill_t rfl | exact okSize_t rfl | exact fun h => h | (simp only [World.size_alloc, World.size_drew, World.size_setCell, size_fill, bytesW]; omega)) only [go_sem, c51, c51S0, c51S1, c51S2, c51S3, c51S4, c51D0, hwn, r5]
    refine ⟨by constructor <;> omega, by omega, by constructor <;> omega, by constructor <;> omega, by omega, Ret.mono (rfixed_ok n 4 w5 (by omega) (by omega)) ?_⟩
    rintro _ w6 ⟨rfl, b6⟩
    have s6 := s5.call b6
    have sm : Same (fun k => k = z) w5 w6 := fun j hj => by subst hj; exact b6.block _ (s5.low 1 rfl).2
    simp (disch := first | omega | exact okFill_t rfl | exact okSize_t rfl | exact fun h => h | (simp only [World.size_alloc, World.size_drew, World.size_setCell, size_fill, bytesW]; omega)) only [go_sem, c51, c51S0, c51S1, c51S2, c51S3, c51S4]
    have lf : (fixL n 4).length = 4 := fixL_len n 4
    have ld : (List.take (4 * i).toNat (rootB P) ++ fixL n 4 ++ List.drop (4 * i + 4).toNat (rootB P)).length = 256 := by
      rw [List.length_append, List.length_append, lf, List.length_take, List.length_drop]; omega
    refine ⟨sm, ?_, ?_, Ret.mono (rput_ok 1 _ s6 hp (by omega) (by rw [ld]; decide)) ?_⟩
    · rw [lf, List.length_take]; omega
    · rw [List.length_append, lf, List.length_take, List.length_drop]; omega
    rintro _ w7 ⟨v7, rfl, s7⟩
    obtain ⟨a7, c7, rfl, _⟩ := (s7.rd 0 rfl).form
    have q7 := s7.rules 0 rfl
    simp (disch := first | omega | exact okFill_t rfl | exact okSize_t rfl | exact fun h => h | (simp only [World.size_alloc, World.size_drew, World.size_setCell, size_fill, bytesW]; omega)) only [go_sem, c51, c51S0, c51S1, c51S2, c51S3, c51S4, q7]
    exact ⟨_, rfl, (s7.fill 0 rfl (cs := #[.slice a7 (P.set 1 (filledL (List.take (4 * i).toNat (rootB P) ++ fixL n 4 ++ List.drop (4 * i + 4).toNat (rootB P)))).length c7, .slice a0 n0 c0]) rfl).sub ((List.sublist_cons_self ..).trans (List.sublist_cons_self ..))⟩
  by_cases hj0 : j = 0
  · subst hj0
    rw [if_neg (by simp)]
    simp (disch := first | omega | exact okFill_t rfl | exact okSize_t rfl | exact fun h => h | (simp only [World.size_alloc, World.size_drew, World.size_setCell, size_fill, bytesW]; omega)) only [go_sem, c51, c51S0, c51S1, c51S3, c51S4, hc]
    exact fin w2 (by decide) (by decide) s2
  · simp (disch := first | omega | exact okFill_t rfl | exact okSize_t rfl | exact fun h => h | (simp only [World.size_alloc, World.size_drew, World.size_setCell, size_fill, bytesW]; omega)) only [go_sem, c51, c51S0, c51S1, c51S3, c51S4, hc, hj0, r2]
    refine Ret.mono (rgiven_ok j s2 hp hj) ?_
    rintro _ w3 ⟨rfl, s3⟩
    have r3 := s3.rules 1 rfl
    have q3 := s3.rules 0 rfl
    by_cases hk : chkN P j = 0
    · obtain ⟨j0, j1⟩ := chk_in hk
      have hk' : decide (chkN P j = 0) = true := by simpa using hk
      rw [if_neg (fun hh => hh hk), hk']
      simp (disch := first | omega | exact okFill_t rfl | exact okSize_t rfl | exact fun h => h | (simp only [World.size_alloc, World.size_drew, World.size_setCell, size_fill, bytesW]; omega)) only [go_sem, c51, c51S0, c51S1, c51S3, c51S4]
      exact fin w3 (by omega) (by omega) s3
    · have hk' : decide (chkN P j = 0) = false := by simpa using hk
      have h6 : chkN P j = 6 := by unfold chkN at hk ⊢; split <;> simp_all
      rw [if_pos hk, hk', h6]
      simp (disch := first | omega | exact okFill_t rfl | exact okSize_t rfl | exact fun h => h | (simp only [World.size_alloc, World.size_drew, World.size_setCell, size_fill, bytesW]; omega)) only [go_sem, c51, c51S0, c51S1, c51S2, c51S3, c51S4, r3, q3]
      exact ⟨_, rfl, (s3.fill 0 rfl (cs := #[.slice (some ad) P.length c, .slice a0 n0 c0]) rfl).sub ((List.sublist_cons_self ..).trans (List.sublist_cons_self ..))⟩
theorem rep_succ (k : Nat) (s : List UInt8) : (List.replicate k s).flatMap strE ++ strE s = (List.replicate (k + 1) s).flatMap strE := by
  rw [List.replicate_succ', List.flatMap_append, List.flatMap_singleton]
theorem rnew_ok (n : Nat) (h : St W0 w F L I) (hn : n ≤ 64) :
    Ret Tryz.prog 18 [.int .i64 n] w fun u w' => ∃ a c, u = .agg #[.slice a n c, .slice a n c] ∧ St W0 w' F L (.rd 1 strE (.slice a n c) (List.replicate n zeroB) :: I) := by
  refine ent18 _ _ _ ?_
  have s1 := (h.box #[.slice none 0 0, .slice none 0 0] 51).nilRow 9 1
  simp (disch := first | omega | exact okFill_t rfl | exact okSize_t rfl | exact fun h => h | (simp only [World.size_alloc, World.size_drew, World.size_setCell, size_fill, bytesW]; omega)) only [go_sem, c18, c18S0, c18S1, c18S2]
  generalize (w.alloc (.cells #[.slice none 0 0, .slice none 0 0] 51)) = w1 at s1 ⊢
  generalize w.heap.size = z at s1 ⊢
  refine W_loopU (fun q : Nat × Value => [(3, q.2), (4, .int .i64 q.1)]) (fun q w' => q.1 ≤ n ∧ St W0 w' F (.row q.2 9 1 q.1 ((List.replicate q.1 zeroB).flatMap strE) :: .blk z #[.slice none 0 0, .slice none 0 0] 51 :: L) I) (fun q => n - q.1) (0, .slice none 0 0) rfl ⟨Nat.zero_le _, s1⟩ ?_
  clear s1
  rintro ⟨k, v⟩ w2 ⟨hk, s2⟩
  simp only at hk s2
  obtain ⟨a, c, rfl, _⟩ := own_slice (s2.row 0 rfl)
  by_cases hlt : k < n
  · have hlt' : (k : Int) < n := by omega
    simp (disch := first | omega | exact okFill_t rfl | exact okSize_t rfl | exact fun h => h | (simp only [World.size_alloc, World.size_drew, World.size_setCell, size_fill, bytesW]; omega)) only [go_sem, c18, c18S0, c18S1, c18L0, c18S2, c18L0, hlt']
    refine Ret.mono (filled_ok [] w2 (by decide)) ?_
    rintro _ w3 ⟨rfl, b3⟩
    have s3 := s2.call b3
    simp (disch := first | omega | exact okFill_t rfl | exact okSize_t rfl | exact fun h => h | (simp only [World.size_alloc, World.size_drew, World.size_setCell, size_fill, bytesW]; omega)) only [go_sem, c18, c18S0, c18S1, c18L0, c18S2]
    have ones : ∀ u ∈ strE (filledL []), u.oneCell' = true := by intro u hu; rw [strE, List.mem_singleton] at hu; subst hu; rfl
    refine bsW_ones ty49mkI rfl rfl (by decide) (by decide) ones ?_
    simp (disch := first | omega | exact okFill_t rfl | exact okSize_t rfl | exact fun h => h | (simp only [World.size_alloc, World.size_drew, World.size_setCell, size_fill, bytesW]; omega)) only [go_sem, c18, c18S0, c18S1, c18L0, c18S2]
    have hx : Rd (w3.alloc (.cells (strE (filledL [])).toArray 9)) 1 (.slice (some ⟨w3.heap.size, 0, none⟩) 1 1) 1 (strE (filledL [])) := rd_new (n := 1) (cs := (strE (filledL [])).toArray) rfl
    refine (s3.alloc' (.cells (strE (filledL [])).toArray 9)).append 0 rfl ty49mkI rfl (by decide) hx ones (by omega) (by omega) ?_
    intro v4 w4 s4 _
    simp (disch := first | omega | exact okFill_t rfl | exact okSize_t rfl | exact fun h => h | (simp only [World.size_alloc, World.size_drew, World.size_setCell, size_fill, bytesW]; omega)) only [go_sem, c18, c18S0, c18S1, c18L0, c18S2]
    exact ⟨by constructor <;> omega, (k + 1, v4), rfl, ⟨by simp only; omega, st_recast s4 (by rw [← rep_succ]; rfl)⟩, by simp only; omega⟩
  · have hlt' : ¬ (k : Int) < n := by omega
    obtain rfl : k = n := by omega
    have q2 := s2.rules 1 rfl
    simp (disch := first | omega | exact okFill_t rfl | exact okSize_t rfl | exact fun h => h | (simp only [World.size_alloc, World.size_drew, World.size_setCell, size_fill, bytesW]; omega)) only [go_sem, c18, c18S0, c18S1, c18L0, c18S2, c18L0, hlt']
    refine bdW_built (cells := #[.slice a k c, .slice a k c]) (by kernel_rfl) ?_
    simp (disch := first | omega | exact okFill_t rfl | exact okSize_t rfl | exact fun h => h | (simp only [World.size_alloc, World.size_drew, World.size_setCell, size_fill, bytesW]; omega)) only [go_sem, c18, c18S0, c18S1, c18L0, c18S2, q2]
    have s3 := (s2.fill 1 rfl (cs := #[.slice a k c, .slice a k c]) rfl).sub (L' := .row (.slice a k c) 9 1 k ((List.replicate k zeroB).flatMap strE) :: L) (List.Sublist.cons_cons _ (List.sublist_cons_self ..))
    have s4 := s3.seal (.rd 1 strE (.slice a k c) (List.replicate k zeroB)) (RdS.of_own' (s3.row 0 rfl) _ (by rw [List.length_replicate]) rfl) fun k hk => slFoot_own hk
    exact ⟨_, _, rfl, s4⟩
end
end Go.Proofs.YtmchjbgobiagiaaGreat

namespace Go.Proofs.YtmchjbgobiagiaaGreat
set_option linter.unusedSimpArgs false
set_option linter.unusedVariables false
set_option maxRecDepth 100000
open Go Go.Ann Go.RowKit Go.WideShapes
theorem Pgr.bel {e : En} {P : List (List UInt8)} {W0 w : World} {F : Nat → Prop} {L : List Res} {I : List Inv} (h : Pgr e P W0 w F L I) : Below W0.heap.size W0 w := by
  obtain ⟨_, _, _, hs, _⟩ := h
  exact hs.bel
theorem awakeP_ok (w : World) : Ret Tryz.prog 16 [] w fun u w' => u = .bool true ∧ Below w.heap.size w w' := by
  refine ent16 _ _ ?_
  simp (disch := first | omega | exact okFill_t rfl | exact okSize_t rfl | exact fun h => h | (simp only [World.size_alloc, World.size_drew, World.size_setCell, size_fill, bytesW]; omega)) only [go_sem, c16, c16S0, c16S1, c16S2, c16S3, c16S4, c16S5, c16S6]
  refine Ret.mono (begun_ok (n := 5) (St.start (W0 := w)) (by decide) (by decide)) ?_
  rintro _ w2 ⟨e, rfl, _, _, h2⟩
  have l5 : (List.replicate 5 zeroB).length = 5 := List.length_replicate
  simp (disch := first | omega | exact okFill_t rfl | exact okSize_t rfl | exact fun h => h | (simp only [World.size_alloc, World.size_drew, World.size_setCell, size_fill, bytesW]; omega)) only [go_sem, c16, c16S0, c16S1, c16S2, c16S3, c16S4, c16S5, c16S6]
  refine Ret.mono (pformat_ok h2 (by rw [l5]; decide)) ?_
  rintro _ w3 ⟨rfl, h3⟩
  have g3 := fmt_given l5 (by decide) (by decide)
  generalize fmtP (List.replicate 5 zeroB) = P3 at h3 g3 ⊢
  simp (disch := first | omega | exact okFill_t rfl | exact okSize_t rfl | exact fun h => h | (simp only [World.size_alloc, World.size_drew, World.size_setCell, size_fill, bytesW]; omega)) only [go_sem, c16, c16S0, c16S1, c16S2, c16S3, c16S4, c16S5, c16S6]
  refine Ret.mono (proom_ok h3 (by rw [g3.len]; decide)) ?_
  rintro _ w4 ⟨rfl, h4⟩
  have e4 : roomN P3 = 3 := by rw [g3.room]; rfl
  rw [e4]
  simp (disch := first | omega | exact okFill_t rfl | exact okSize_t rfl | exact fun h => h | (simp only [World.size_alloc, World.size_drew, World.size_setCell, size_fill, bytesW]; omega)) only [go_sem, c16, c16S0, c16S1, c16S2, c16S3, c16S4, c16S5, c16S6]
  refine Ret.mono (palloc_ok h4 (by rw [g3.len]; decide)) ?_
  rintro _ w5 ⟨rfl, h5⟩
  obtain ⟨e5, g5⟩ := g3.alloc (by decide) (k := 2) (by decide) (by decide) rfl (fun j _ _ => by omega)
  rw [e5] at h5 ⊢
  generalize emptyP (markP P3 (2 : Nat) true) (2 : Nat) = P5 at h5 g5 ⊢
  simp (disch := first | omega | exact okFill_t rfl | exact okSize_t rfl | exact fun h => h | (simp only [World.size_alloc, World.size_drew, World.size_setCell, size_fill, bytesW]; omega)) only [go_sem, c16, c16S0, c16S1, c16S2, c16S3, c16S4, c16S5, c16S6]
  refine Ret.mono (palloc_ok h5 (by rw [g5.len]; decide)) ?_
  rintro _ w6 ⟨rfl, h6⟩
  obtain ⟨e6, g6⟩ := g5.alloc (by decide) (k := 3) (by decide) (by decide) rfl (fun j _ _ => by obtain rfl : j = 2 := by omega
                                                                                                rfl)
  rw [e6] at h6 ⊢
  generalize emptyP (markP P5 (3 : Nat) true) (3 : Nat) = P6 at h6 g6 ⊢
  simp (disch := first | omega | exact okFill_t rfl | exact okSize_t rfl | exact fun h => h | (simp only [World.size_alloc, World.size_drew, World.size_setCell, size_fill, bytesW]; omega)) only [go_sem, c16, c16S0, c16S1, c16S2, c16S3, c16S4, c16S5, c16S6]
  refine Ret.mono (pfree_ok 2 h6 (by rw [g6.len]; decide) ⟨by decide, by decide⟩) ?_
  rintro _ w7 ⟨rfl, h7⟩
  have e7 : freeN P6 2 = (markP P6 2 false, 0) := by
    unfold freeN
    rw [show chkN P6 2 = 0 from (g6.chk (i := 2) (by decide) (by decide)).trans rfl]
    rfl
  rw [e7] at h7 ⊢
  have g7 := g6.mark (by decide) (i := 2) (by decide) false
  generalize hm : markP P6 ((2 : Nat) : Int) false = P7 at g7
  rw [show markP P6 2 false = P7 from hm] at h7
  simp (disch := first | omega | exact okFill_t rfl | exact okSize_t rfl | exact fun h => h | (simp only [World.size_alloc, World.size_drew, World.size_setCell, size_fill, bytesW]; omega)) only [go_sem, c16, c16S0, c16S1, c16S2, c16S3, c16S4, c16S5, c16S6]
  refine Ret.mono (palloc_ok h7 (by rw [g7.len]; decide)) ?_
  rintro _ w8 ⟨rfl, h8⟩
  obtain ⟨e8, g8⟩ := g7.alloc (by decide) (k := 2) (by decide) (by decide) rfl (fun j _ _ => by omega)
  rw [e8] at h8 ⊢
  simp (disch := first | omega | exact okFill_t rfl | exact okSize_t rfl | exact fun h => h | (simp only [World.size_alloc, World.size_drew, World.size_setCell, size_fill, bytesW]; omega)) only [go_sem, c16, c16S0, c16S1, c16S2, c16S3, c16S4, c16S5, c16S6]
  exact h8.bel
end Go.Proofs.YtmchjbgobiagiaaGreat

namespace Go.Proofs.YtmchjbgobiagiaaGreat
set_option linter.unusedSimpArgs false
set_option linter.unusedVariables false
set_option maxRecDepth 100000
open Go Go.Ann Go.RowKit Go.WideShapes
structure ActP where
  Kind : Int
  At : Int
  To : Int
  Data : List UInt8
deriving DecidableEq
def ActP.enc (a : ActP) : List Value := [.int .i64 a.Kind, .int .i64 a.At, .int .i64 a.To, .string (ofL a.Data)]
def ActP.wf (a : ActP) : Prop := kOk .i64 a.Kind ∧ kOk .i64 a.At ∧ kOk .i64 a.To ∧ (a.Data.length : Int) ≤ 9223372036854775807
theorem ActP.len (a : ActP) : a.enc.length = 4 := rfl
theorem ActP.one (a : ActP) : ∀ u ∈ a.enc, u.oneCell' = true := by intro u hu; simp only [ActP.enc, List.mem_cons, List.not_mem_nil, or_false] at hu; rcases hu with rfl | rfl | rfl | rfl <;> rfl
theorem ActP.at (a : ActP) : a.enc[0]? = some (.int .i64 a.Kind) ∧ a.enc[1]? = some (.int .i64 a.At) ∧ a.enc[2]? = some (.int .i64 a.To) ∧ a.enc[3]? = some (.string (ofL a.Data)) := ⟨rfl, rfl, rfl, rfl⟩
set_option maxRecDepth 100000 in
theorem opens_ActP : Opens Tryz.prog 23 (fun _ (a : ActP) cs => cs = a.enc ∧ a.wf) := by
  intro H enc w base sp hd fuel cs x hx
  obtain ⟨hl, hf⟩ := opens_fields Tryz.underlying23 hx
  rw [show Tryz.prog.cellsOf 23 = 4 by kernel_rfl] at hl
  have c_0 : Tryz.prog.cellsOf 3 = 1 := by kernel_rfl
  have c_1 : Tryz.prog.cellsOf 9 = 1 := by kernel_rfl
  match cs, hl with
  | [v0, v1, v2, v3], _ =>
    obtain ⟨n0, y0, g0⟩ := hf 0 _ rfl
    have h0 : DataW.trod enc Tryz.prog w base sp hd n0 3 (List.take (Tryz.prog.cellsOf 3) [v0, v1, v2, v3]) = some y0 := g0
    rw [c_0] at h0
    obtain ⟨a0, e0⟩ := opens_int Tryz.underlying3 enc w base sp hd n0 [v0] y0 h0
    have r0 : v0 = _ := (List.cons.inj e0.1).1
    obtain ⟨n1, y1, g1⟩ := hf 1 _ rfl
    have h1 : DataW.trod enc Tryz.prog w base sp hd n1 3 (List.take (Tryz.prog.cellsOf 3) [v1, v2, v3]) = some y1 := g1
    rw [c_0] at h1
    obtain ⟨a1, e1⟩ := opens_int Tryz.underlying3 enc w base sp hd n1 [v1] y1 h1
    have r1 : v1 = _ := (List.cons.inj e1.1).1
    obtain ⟨n2, y2, g2⟩ := hf 2 _ rfl
    have h2 : DataW.trod enc Tryz.prog w base sp hd n2 3 (List.take (Tryz.prog.cellsOf 3) [v2, v3]) = some y2 := g2
    rw [c_0] at h2
    obtain ⟨a2, e2⟩ := opens_int Tryz.underlying3 enc w base sp hd n2 [v2] y2 h2
    have r2 : v2 = _ := (List.cons.inj e2.1).1
    obtain ⟨n3, y3, g3⟩ := hf 3 _ rfl
    have h3 : DataW.trod enc Tryz.prog w base sp hd n3 9 (List.take (Tryz.prog.cellsOf 9) [v3]) = some y3 := g3
    rw [c_1] at h3
    obtain ⟨a3, e3⟩ := opens_str Tryz.underlying9 enc w base sp hd n3 [v3] y3 h3
    have r3 : v3 = _ := (List.cons.inj e3.1).1
    exact ⟨⟨a0, a1, a2, a3⟩, by rw [r0, r1, r2, r3]; rfl, e0.2, e1.2, e2.2, e3.2⟩
end Go.Proofs.YtmchjbgobiagiaaGreat

namespace Go.Proofs.YtmchjbgobiagiaaGreat
set_option linter.unusedSimpArgs false
set_option linter.unusedVariables false
set_option maxRecDepth 100000
open Go Go.Ann Go.RowKit Go.WideShapes
def actP (P : List (List UInt8)) (x : ActP) : List (List UInt8) :=
  if x.Kind = 0 then (allocN P).1 else if x.Kind = 1 then (freeN P x.At).1 else if x.Kind = 2 then P else if x.Kind = 3 then (setPN P x.At x.Data).1 else if x.Kind = 4 then P else if x.Kind = 5 then (setRootN P x.At x.To).1 else fmtP P
section
variable {W0 w : World} {F : Nat → Prop} {L : List Res} {I : List Inv} {P Q : List (List UInt8)} {e : En} {vn : Value} {a0 : Option Addr} {n0 c0 rb : Nat}
theorem Pgr.pages (h : Pgr e P W0 w F L I) (h3 : 3 ≤ P.length) : Pages P := ⟨h3, h.len.2, h.full⟩
theorem Pgr.drop2 {r1 r2 : Res} (h : Pgr e P W0 w F (r1 :: r2 :: L) I) : Pgr e P W0 w F L I := by
  obtain ⟨A, s1, back⟩ := h.lift
  exact back _ _ _ (s1.sub ((List.sublist_cons_self ..).trans (List.sublist_cons_self ..)))
theorem doesEnd_ok {nx xb : Nat} {vn' : Value} {X : Array Value} {tx : TypeId} {f g : Int} {a1 : Option Addr} {n1 c1 : Nat} (he : vn' = .slice a1 n1 c1) (h : Pgr e Q W0 w F (.blk nx #[vn', .slice a0 n0 c0] 51 :: .blk xb X tx :: .blk rb #[vn, .slice a0 n0 c0] 51 :: L) (.rd 1 strE vn' Q :: I)) :
    W Tryz.prog (c20S10 ()) [(1, .pointer (some ⟨rb, 0, none⟩)), (7, .int .i64 f), (8, .int .i64 g), (9, .pointer (some ⟨nx, 0, none⟩))] w (finQ Tryz.prog [.tmp 6] fun u w' => ∃ vn' : Value, Pgr e Q W0 w' F (.blk rb #[vn', .slice a0 n0 c0] 51 :: L) (.rd 1 strE vn' Q :: I)) := by
  subst he
  obtain ⟨A, s1, back⟩ := h.lift
  have r0 := s1.rules 0 rfl
  have r2 := s1.rules 2 rfl
  have hz := s1.ne 0 2 rfl rfl (by decide) rfl
  simp (disch := first | omega | exact okFill_t rfl | exact okSize_t rfl | exact fun h => h | (simp only [World.size_alloc, World.size_drew, World.size_setCell, size_fill, bytesW]; omega)) only [go_sem, c20, c20S0, c20S1, c20S2, c20S3, c20S4, c20S5, c20S6, c20S7, c20S8, c20S9, c20S10, r0, r2]
  have s2 := s1.fill 2 rfl (cs := #[.slice a1 n1 c1, .slice a0 n0 c0]) rfl
  refine ⟨_, back _ _ _ (s2.sub ?_)⟩
  exact (List.sublist_cons_self ..).trans (List.sublist_cons_self ..)
theorem does_ok (x : ActP) (hx : x.wf) (hk : x.Kind < 6) (h : Pgr e P W0 w F (.blk rb #[vn, .slice a0 n0 c0] 51 :: L) (.rd 1 strE vn P :: I)) (h3 : 3 ≤ P.length) :
    Ret Tryz.prog 20 [.pointer (some ⟨e.p, 0, none⟩), .pointer (some ⟨rb, 0, none⟩), .agg x.enc.toArray] w fun u w' => ∃ vn' : Value, Pgr e (actP P x) W0 w' F (.blk rb #[vn', .slice a0 n0 c0] 51 :: L) (.rd 1 strE vn' (actP P x) :: I) := by
  have hp := h.pages h3
  obtain ⟨A, s0, back⟩ := h.lift
  obtain ⟨a, c, rfl, _⟩ := (s0.rd 0 rfl).form
  obtain ⟨w1', w2', w3', w4'⟩ := hx
  refine ent20 _ _ _ _ _ ?_
  have s1 := s0.box x.enc.toArray 23
  have r0 := s1.rules 1 rfl
  have rx := s1.rules 0 rfl
  simp only [ActP.enc] at rx
  have hz := s1.size
  have hl := s0.low 0 rfl
  have k0 : ¬ x.Kind = 6 := by omega
  have k7 : ¬ x.Kind = 7 := by omega
  simp (disch := first | omega | exact okFill_t rfl | exact okSize_t rfl | exact fun h => h | (simp only [World.size_alloc, World.size_drew, World.size_setCell, size_fill, bytesW]; omega)) only [go_sem, c20, c20S0, c20S1, c20S2, c20S3, c20S4, c20S5, c20S6, c20S7, c20S8, c20S9, c20S10, r0, rx, k0, k7]
  have s2 := (s1.box #[.slice none 0 0, .slice none 0 0] 51).fill 0 rfl (cs := #[.slice a P.length c, .slice a0 n0 c0]) rfl
  simp only [World.size_alloc] at s2
  have s2 := st_recast (L' := .blk (w.heap.size + 1) #[.slice a P.length c, .slice a0 n0 c0] 51 :: .blk w.heap.size x.enc.toArray 23 :: .blk rb #[.slice a P.length c, .slice a0 n0 c0] 51 :: (L ++ A)) s2 rfl
  clear r0 rx s1
  generalize ((w.alloc (.cells x.enc.toArray 23)).alloc (.cells #[.slice none 0 0, .slice none 0 0] 51)).fill (w.heap.size + 1) #[.slice a P.length c, .slice a0 n0 c0] = w2 at s2 ⊢
  generalize w.heap.size = z at s2 hz hl ⊢
  have xa := x.at
  have r2 := s2.rules 2 rfl
  have q2 := s2.rules 0 rfl
  -- what both do
  have fin : ∀ (w3 : World) (Q : List (List UInt8)) (v3 : Value) (f g : Int), Pgr e Q W0 w3 F (.blk (z + 1) #[v3, .slice a0 n0 c0] 51 :: .blk z x.enc.toArray 23 :: .blk rb #[.slice a P.length c, .slice a0 n0 c0] 51 :: L) (.rd 1 strE v3 Q :: I) → Q = actP P x →
      W Tryz.prog (c20S10 ()) [(1, .pointer (some ⟨rb, 0, none⟩)), (7, .int .i64 f), (8, .int .i64 g), (9, .pointer (some ⟨z + 1, 0, none⟩))] w3 (finQ Tryz.prog [.tmp 6] fun u w' => ∃ vn' : Value, Pgr e (actP P x) W0 w' F (.blk rb #[vn', .slice a0 n0 c0] 51 :: L) (.rd 1 strE vn' (actP P x) :: I)) := by
    intro w3 Q v3 f g h3' hQ
    obtain ⟨A', s3, _⟩ := h3'.lift
    obtain ⟨a3, c3, rfl, _⟩ := (s3.rd 0 rfl).form
    rw [← hQ]
    exact doesEnd_ok rfl h3'
  by_cases k1 : x.Kind = 0
  · rw [k1] at xa
    simp (disch := first | omega | exact okFill_t rfl | exact okSize_t rfl | exact fun h => h | (simp only [World.size_alloc, World.size_drew, World.size_setCell, size_fill, bytesW]; omega)) only [go_sem, c20, c20S0, c20S1, c20S2, c20S3, c20S4, c20S5, c20S6, c20S7, c20S8, c20S9, xa, k1, r2]
    refine Ret.mono (ralloc_ok s2 hp) ?_
    rintro _ w3 ⟨v3, rfl, s3⟩
    obtain ⟨a3, c3, rfl, _⟩ := (s3.rd 0 rfl).form
    have r3 := s3.rules 0 rfl
    have s4 := s3.fill 0 rfl (cs := #[.slice a3 (allocN P).1.length c3, .slice a0 n0 c0]) rfl
    have g4 := back _ (.blk (z + 1) #[.slice a3 (allocN P).1.length c3, .slice a0 n0 c0] 51 :: .blk z x.enc.toArray 23 :: .blk rb #[.slice a P.length c, .slice a0 n0 c0] 51 :: L) _ s4
    simp (disch := first | omega | exact okFill_t rfl | exact okSize_t rfl | exact fun h => h | (simp only [World.size_alloc, World.size_drew, World.size_setCell, size_fill, bytesW]; omega)) only [go_sem, c20, c20S0, c20S1, c20S2, c20S3, c20S4, c20S5, c20S6, c20S7, c20S8, c20S9, r3]
    refine Ret.mono (palloc_ok g4 h3) ?_
    rintro _ w5 ⟨rfl, g5⟩
    simp (disch := first | omega | exact okFill_t rfl | exact okSize_t rfl | exact fun h => h | (simp only [World.size_alloc, World.size_drew, World.size_setCell, size_fill, bytesW]; omega)) only [go_sem, c20, c20S0, c20S1, c20S2, c20S3, c20S4, c20S5, c20S6, c20S7, c20S8, c20S9]
    exact fin w5 _ _ _ _ g5 (by unfold actP; rw [if_pos k1])
  by_cases k2 : x.Kind = 1
  · rw [k2] at xa
    have i1 : I64 x.At := I64_of_wf w2'
    have i2 : I64 x.To := I64_of_wf w3'
    simp (disch := first | omega | exact okFill_t rfl | exact okSize_t rfl | exact fun h => h | (simp only [World.size_alloc, World.size_drew, World.size_setCell, size_fill, bytesW]; omega)) only [go_sem, c20, c20S0, c20S1, c20S2, c20S3, c20S4, c20S5, c20S6, c20S7, c20S8, c20S9, xa, k1, k2, r2]
    refine c20draw0 (Same (fun k => k = rb) _) (Same.refl _ _) ?_
    have s3 := s2.drew
    generalize w2.drew = w3 at s3 ⊢
    have r3 := s3.rules 2 rfl
    have rx := s3.rules 1 rfl
    simp (disch := first | omega | exact okFill_t rfl | exact okSize_t rfl | exact fun h => h | (simp only [World.size_alloc, World.size_drew, World.size_setCell, size_fill, bytesW]; omega)) only [go_sem, c20, c20S0, c20S1, c20S2, c20S3, c20S4, c20S5, c20S6, c20S7, c20S8, c20S9, c20D0, r3, rx, xa]
    refine ⟨Same.refl _ _, Ret.mono (rfree_ok x.At s3 hp i1) ?_⟩
    rintro _ w4 ⟨v4, rfl, s4⟩
    obtain ⟨a3, c3, rfl, _⟩ := (s4.rd 0 rfl).form
    have r4 := s4.rules 0 rfl
    have rx4 := s4.rules 1 rfl
    have sm4 : Same (fun k => k = rb) w3 w4 := fun j hj => by
      subst hj
      have e5 : w3.heap[j]? = _ := s3.blk 2 rfl
      have e7 : w4.heap[j]? = _ := s4.blk 2 rfl
      rw [e5, e7]
    have s5 := s4.fill 0 rfl (cs := #[.slice a3 (freeN P x.At).1.length c3, .slice a0 n0 c0]) rfl
    have g5 := back _ (.blk (z + 1) #[.slice a3 (freeN P x.At).1.length c3, .slice a0 n0 c0] 51 :: .blk z x.enc.toArray 23 :: .blk rb #[.slice a P.length c, .slice a0 n0 c0] 51 :: L) _ s5
    simp (disch := first | omega | exact okFill_t rfl | exact okSize_t rfl | exact fun h => h | (simp only [World.size_alloc, World.size_drew, World.size_setCell, size_fill, bytesW]; omega)) only [go_sem, c20, c20S0, c20S1, c20S2, c20S3, c20S4, c20S5, c20S6, c20S7, c20S8, c20S9, r4, rx4, xa]
    refine Ret.mono (pfree_ok x.At g5 h3 i1) ?_
    rintro _ w6 ⟨rfl, g6⟩
    simp (disch := first | omega | exact okFill_t rfl | exact okSize_t rfl | exact fun h => h | (simp only [World.size_alloc, World.size_drew, World.size_setCell, size_fill, bytesW]; omega)) only [go_sem, c20, c20S0, c20S1, c20S2, c20S3, c20S4, c20S5, c20S6, c20S7, c20S8, c20S9]
    exact fin w6 _ _ _ _ g6 (by unfold actP; rw [if_neg k1, if_pos k2])
  by_cases k3 : x.Kind = 2
  · rw [k3] at xa
    have i1 : I64 x.At := I64_of_wf w2'
    have i2 : I64 x.To := I64_of_wf w3'
    simp (disch := first | omega | exact okFill_t rfl | exact okSize_t rfl | exact fun h => h | (simp only [World.size_alloc, World.size_drew, World.size_setCell, size_fill, bytesW]; omega)) only [go_sem, c20, c20S0, c20S1, c20S2, c20S3, c20S4, c20S5, c20S6, c20S7, c20S8, c20S9, xa, k1, k2, k3, r2]
    refine c20draw1 (Same (fun k => k = rb) _) (Same.refl _ _) ?_
    have s3 := s2.drew
    generalize w2.drew = w3 at s3 ⊢
    have r3 := s3.rules 2 rfl
    have rx := s3.rules 1 rfl
    simp (disch := first | omega | exact okFill_t rfl | exact okSize_t rfl | exact fun h => h | (simp only [World.size_alloc, World.size_drew, World.size_setCell, size_fill, bytesW]; omega)) only [go_sem, c20, c20S0, c20S1, c20S2, c20S3, c20S4, c20S5, c20S6, c20S7, c20S8, c20S9, c20D1, r3, rx, xa]
    refine ⟨Same.refl _ _, Ret.mono (rget_ok x.At s3 hp i1) ?_⟩
    rintro _ w4 ⟨rfl, s4⟩
    have rx4 := s4.rules 1 rfl
    have sm4 : Same (fun k => k = rb) w3 w4 := fun j hj => by
      subst hj
      have e5 : w3.heap[j]? = _ := s3.blk 2 rfl
      have e7 : w4.heap[j]? = _ := s4.blk 2 rfl
      rw [e5, e7]
    have g5 := back _ (.blk (z + 1) #[.slice a P.length c, .slice a0 n0 c0] 51 :: .blk z x.enc.toArray 23 :: .blk rb #[.slice a P.length c, .slice a0 n0 c0] 51 :: L) _ s4
    simp (disch := first | omega | exact okFill_t rfl | exact okSize_t rfl | exact fun h => h | (simp only [World.size_alloc, World.size_drew, World.size_setCell, size_fill, bytesW]; omega)) only [go_sem, c20, c20S0, c20S1, c20S2, c20S3, c20S4, c20S5, c20S6, c20S7, c20S8, c20S9, c20S10, rx4, xa]
    refine Ret.mono (pget_ok x.At g5 h3 i1) ?_
    rintro _ w6 ⟨rfl, g6⟩
    simp (disch := first | omega | exact okFill_t rfl | exact okSize_t rfl | exact fun h => h | (simp only [World.size_alloc, World.size_drew, World.size_setCell, size_fill, bytesW]; omega)) only [go_sem, c20, c20S0, c20S1, c20S2, c20S3, c20S4, c20S5, c20S6, c20S7, c20S8, c20S9, c20S10]
    have ea : actP P x = P := by unfold actP; rw [if_neg k1, if_neg k2, if_pos k3]
    rw [ea]
    exact ⟨_, g6.drop2⟩
  by_cases k4 : x.Kind = 3
  · rw [k4] at xa
    have i1 : I64 x.At := I64_of_wf w2'
    have i2 : I64 x.To := I64_of_wf w3'
    simp (disch := first | omega | exact okFill_t rfl | exact okSize_t rfl | exact fun h => h | (simp only [World.size_alloc, World.size_drew, World.size_setCell, size_fill, bytesW]; omega)) only [go_sem, c20, c20S0, c20S1, c20S2, c20S3, c20S4, c20S5, c20S6, c20S7, c20S8, c20S9, xa, k1, k2, k3, k4, r2]
    refine c20draw2 (Same (fun k => k = rb ∨ k = z) _) (Same.refl _ _) ?_
    have s3 := s2.drew
    generalize w2.drew = w3 at s3 ⊢
    have r3 := s3.rules 2 rfl
    have rx := s3.rules 1 rfl
    simp (disch := first | omega | exact okFill_t rfl | exact okSize_t rfl | exact fun h => h | (simp only [World.size_alloc, World.size_drew, World.size_setCell, size_fill, bytesW]; omega)) only [go_sem, c20, c20S0, c20S1, c20S2, c20S3, c20S4, c20S5, c20S6, c20S7, c20S8, c20S9, c20D2, r3, rx, xa]
    refine ⟨Same.refl _ _, Ret.mono (rsetp_ok x.At x.Data s3 hp i1) ?_⟩
    rintro _ w4 ⟨v4, rfl, s4⟩
    obtain ⟨a3, c3, rfl, _⟩ := (s4.rd 0 rfl).form
    have r4 := s4.rules 0 rfl
    have rx4 := s4.rules 1 rfl
    have sm4 : Same (fun k => k = rb ∨ k = z) w3 w4 := fun j hj => by
      rcases hj with rfl | rfl
      · have e5 : w3.heap[j]? = _ := s3.blk 2 rfl
        have e7 : w4.heap[j]? = _ := s4.blk 2 rfl
        rw [e5, e7]
      · have e5 : w3.heap[j]? = _ := s3.blk 1 rfl
        have e7 : w4.heap[j]? = _ := s4.blk 1 rfl
        rw [e5, e7]
    have s5 := s4.fill 0 rfl (cs := #[.slice a3 (setPN P x.At x.Data).1.length c3, .slice a0 n0 c0]) rfl
    have g5 := back _ (.blk (z + 1) #[.slice a3 (setPN P x.At x.Data).1.length c3, .slice a0 n0 c0] 51 :: .blk z x.enc.toArray 23 :: .blk rb #[.slice a P.length c, .slice a0 n0 c0] 51 :: L) _ s5
    simp (disch := first | omega | exact okFill_t rfl | exact okSize_t rfl | exact fun h => h | (simp only [World.size_alloc, World.size_drew, World.size_setCell, size_fill, bytesW]; omega)) only [go_sem, c20, c20S0, c20S1, c20S2, c20S3, c20S4, c20S5, c20S6, c20S7, c20S8, c20S9, r4, rx4, xa]
    refine Ret.mono (pset_ok x.At x.Data g5 h3 i1) ?_
    rintro _ w6 ⟨rfl, g6⟩
    simp (disch := first | omega | exact okFill_t rfl | exact okSize_t rfl | exact fun h => h | (simp only [World.size_alloc, World.size_drew, World.size_setCell, size_fill, bytesW]; omega)) only [go_sem, c20, c20S0, c20S1, c20S2, c20S3, c20S4, c20S5, c20S6, c20S7, c20S8, c20S9]
    exact fin w6 _ _ _ _ g6 (by unfold actP; rw [if_neg k1, if_neg k2, if_neg k3, if_pos k4])
  by_cases k5 : x.Kind = 4
  · rw [k5] at xa
    have i1 : I64 x.At := I64_of_wf w2'
    have i2 : I64 x.To := I64_of_wf w3'
    simp (disch := first | omega | exact okFill_t rfl | exact okSize_t rfl | exact fun h => h | (simp only [World.size_alloc, World.size_drew, World.size_setCell, size_fill, bytesW]; omega)) only [go_sem, c20, c20S0, c20S1, c20S2, c20S3, c20S4, c20S5, c20S6, c20S7, c20S8, c20S9, xa, k1, k2, k3, k4, k5, r2]
    refine c20draw3 (Same (fun k => k = rb) _) (Same.refl _ _) ?_
    have s3 := s2.drew
    generalize w2.drew = w3 at s3 ⊢
    have r3 := s3.rules 2 rfl
    have rx := s3.rules 1 rfl
    simp (disch := first | omega | exact okFill_t rfl | exact okSize_t rfl | exact fun h => h | (simp only [World.size_alloc, World.size_drew, World.size_setCell, size_fill, bytesW]; omega)) only [go_sem, c20, c20S0, c20S1, c20S2, c20S3, c20S4, c20S5, c20S6, c20S7, c20S8, c20S9, c20D3, r3, rx, xa]
    refine ⟨Same.refl _ _, Ret.mono (rroot_ok x.At s3 hp i1) ?_⟩
    rintro _ w4 ⟨rfl, s4⟩
    have rx4 := s4.rules 1 rfl
    have sm4 : Same (fun k => k = rb) w3 w4 := fun j hj => by
      subst hj
      have e5 : w3.heap[j]? = _ := s3.blk 2 rfl
      have e7 : w4.heap[j]? = _ := s4.blk 2 rfl
      rw [e5, e7]
    have g5 := back _ (.blk (z + 1) #[.slice a P.length c, .slice a0 n0 c0] 51 :: .blk z x.enc.toArray 23 :: .blk rb #[.slice a P.length c, .slice a0 n0 c0] 51 :: L) _ s4
    simp (disch := first | omega | exact okFill_t rfl | exact okSize_t rfl | exact fun h => h | (simp only [World.size_alloc, World.size_drew, World.size_setCell, size_fill, bytesW]; omega)) only [go_sem, c20, c20S0, c20S1, c20S2, c20S3, c20S4, c20S5, c20S6, c20S7, c20S8, c20S9, c20S10, rx4, xa]
    refine Ret.mono (proot_ok x.At g5 h3 i1) ?_
    rintro _ w6 ⟨rfl, g6⟩
    simp (disch := first | omega | exact okFill_t rfl | exact okSize_t rfl | exact fun h => h | (simp only [World.size_alloc, World.size_drew, World.size_setCell, size_fill, bytesW]; omega)) only [go_sem, c20, c20S0, c20S1, c20S2, c20S3, c20S4, c20S5, c20S6, c20S7, c20S8, c20S9, c20S10]
    have ea : actP P x = P := by unfold actP; rw [if_neg k1, if_neg k2, if_neg k3, if_neg k4, if_pos k5]
    rw [ea]
    exact ⟨_, g6.drop2⟩
  by_cases k6 : x.Kind = 5
  · rw [k6] at xa
    have i1 : I64 x.At := I64_of_wf w2'
    have i2 : I64 x.To := I64_of_wf w3'
    simp (disch := first | omega | exact okFill_t rfl | exact okSize_t rfl | exact fun h => h | (simp only [World.size_alloc, World.size_drew, World.size_setCell, size_fill, bytesW]; omega)) only [go_sem, c20, c20S0, c20S1, c20S2, c20S3, c20S4, c20S5, c20S6, c20S7, c20S8, c20S9, xa, k1, k2, k3, k4, k5, k6, r2]
    refine c20draw4 (Same (fun k => k = rb ∨ k = z) _) (Same.refl _ _) ?_
    have s3 := s2.drew
    generalize w2.drew = w3 at s3 ⊢
    have r3 := s3.rules 2 rfl
    have rx := s3.rules 1 rfl
    simp (disch := first | omega | exact okFill_t rfl | exact okSize_t rfl | exact fun h => h | (simp only [World.size_alloc, World.size_drew, World.size_setCell, size_fill, bytesW]; omega)) only [go_sem, c20, c20S0, c20S1, c20S2, c20S3, c20S4, c20S5, c20S6, c20S7, c20S8, c20S9, c20D4, r3, rx, xa]
    refine ⟨Same.refl _ _, Ret.mono (rsetRoot_ok x.At x.To s3 hp i1 i2) ?_⟩
    rintro _ w4 ⟨v4, rfl, s4⟩
    obtain ⟨a3, c3, rfl, _⟩ := (s4.rd 0 rfl).form
    have r4 := s4.rules 0 rfl
    have rx4 := s4.rules 1 rfl
    have sm4 : Same (fun k => k = rb ∨ k = z) w3 w4 := fun j hj => by
      rcases hj with rfl | rfl
      · have e5 : w3.heap[j]? = _ := s3.blk 2 rfl
        have e7 : w4.heap[j]? = _ := s4.blk 2 rfl
        rw [e5, e7]
      · have e5 : w3.heap[j]? = _ := s3.blk 1 rfl
        have e7 : w4.heap[j]? = _ := s4.blk 1 rfl
        rw [e5, e7]
    have s5 := s4.fill 0 rfl (cs := #[.slice a3 (setRootN P x.At x.To).1.length c3, .slice a0 n0 c0]) rfl
    have g5 := back _ (.blk (z + 1) #[.slice a3 (setRootN P x.At x.To).1.length c3, .slice a0 n0 c0] 51 :: .blk z x.enc.toArray 23 :: .blk rb #[.slice a P.length c, .slice a0 n0 c0] 51 :: L) _ s5
    simp (disch := first | omega | exact okFill_t rfl | exact okSize_t rfl | exact fun h => h | (simp only [World.size_alloc, World.size_drew, World.size_setCell, size_fill, bytesW]; omega)) only [go_sem, c20, c20S0, c20S1, c20S2, c20S3, c20S4, c20S5, c20S6, c20S7, c20S8, c20S9, r4, rx4, xa]
    refine Ret.mono (psetRoot_ok x.At x.To g5 h3 i1 i2) ?_
    rintro _ w6 ⟨rfl, g6⟩
    simp (disch := first | omega | exact okFill_t rfl | exact okSize_t rfl | exact fun h => h | (simp only [World.size_alloc, World.size_drew, World.size_setCell, size_fill, bytesW]; omega)) only [go_sem, c20, c20S0, c20S1, c20S2, c20S3, c20S4, c20S5, c20S6, c20S7, c20S8, c20S9]
    exact fin w6 _ _ _ _ g6 (by unfold actP; rw [if_neg k1, if_neg k2, if_neg k3, if_neg k4, if_neg k5, if_pos k6])
  simp (disch := first | omega | exact okFill_t rfl | exact okSize_t rfl | exact fun h => h | (simp only [World.size_alloc, World.size_drew, World.size_setCell, size_fill, bytesW]; omega)) only [go_sem, c20, c20S0, c20S1, c20S2, c20S3, c20S4, c20S5, c20S6, c20S7, c20S8, c20S9, xa, k1, k2, k3, k4, k5, k6, k0, k7, r2]
  refine Ret.mono (rformat_ok s2 hp) ?_
  rintro _ w3 ⟨v3, rfl, s3⟩
  obtain ⟨a3, c3, rfl, _⟩ := (s3.rd 0 rfl).form
  have r3 := s3.rules 0 rfl
  have s4 := s3.fill 0 rfl (cs := #[.slice a3 (fmtP P).length c3, .slice a0 n0 c0]) rfl
  have g4 := back _ (.blk (z + 1) #[.slice a3 (fmtP P).length c3, .slice a0 n0 c0] 51 :: .blk z x.enc.toArray 23 :: .blk rb #[.slice a P.length c, .slice a0 n0 c0] 51 :: L) _ s4
  simp (disch := first | omega | exact okFill_t rfl | exact okSize_t rfl | exact fun h => h | (simp only [World.size_alloc, World.size_drew, World.size_setCell, size_fill, bytesW]; omega)) only [go_sem, c20, c20S0, c20S1, c20S2, c20S3, c20S4, c20S5, c20S6, c20S7, c20S8, c20S9, r3]
  refine Ret.mono (pformat_ok g4 h3) ?_
  rintro _ w5 ⟨rfl, g5⟩
  simp (disch := first | omega | exact okFill_t rfl | exact okSize_t rfl | exact fun h => h | (simp only [World.size_alloc, World.size_drew, World.size_setCell, size_fill, bytesW]; omega)) only [go_sem, c20, c20S0, c20S1, c20S2, c20S3, c20S4, c20S5, c20S6, c20S7, c20S8, c20S9]
  exact fin w5 _ _ _ _ g5 (by unfold actP; rw [if_neg k1, if_neg k2, if_neg k3, if_neg k4, if_neg k5, if_neg k6])
end
end Go.Proofs.YtmchjbgobiagiaaGreat

namespace Go.Proofs.YtmchjbgobiagiaaGreat
set_option linter.unusedSimpArgs false
set_option linter.unusedVariables false
set_option maxRecDepth 100000
open Go Go.Ann Go.RowKit Go.WideShapes
abbrev Pge := Int × List UInt8
def hdsN (n : Nat) : Nat := (4 * n + 259) / 256
def blocksN (n : Nat) : Nat := hdsN n + n
def fixP (p : Pge) : List UInt8 := fixL p.1.toNat 4
def idxL (l : List Pge) : List UInt8 := fixL l.length 4 ++ l.flatMap fixP
theorem fixP_len (p : Pge) : (fixP p).length = 4 := fixL_len _ _
theorem flatP_len (l : List Pge) : (l.flatMap fixP).length = 4 * l.length := by
  induction l with
  | nil => rfl
  | cons a l ih => rw [List.flatMap_cons, List.length_append, ih, List.length_cons]; unfold fixP; rw [fixL_len]; omega
theorem idxL_len (l : List Pge) : (idxL l).length = 4 * l.length + 4 := by
  unfold idxL; rw [List.length_append, fixL_len, flatP_len]; omega
def chunksL : Nat → List UInt8 → List (List UInt8)
  | 0, _ => []
  | k + 1, s => filledL (s.take 256) :: chunksL k (s.drop 256)
theorem chunksL_len : ∀ (k : Nat) (s : List UInt8), (chunksL k s).length = k
  | 0, _ => rfl
  | k + 1, s => by rw [chunksL, List.length_cons, chunksL_len k]
theorem chunksL_256 : ∀ (k : Nat) (s : List UInt8), ∀ c ∈ chunksL k s, c.length = 256
  | 0, _, _, h => by cases h
  | k + 1, s, c, h => by
    rw [chunksL] at h
    rcases List.mem_cons.1 h with rfl | h
    · exact filledL_length (by rw [List.length_take]; omega)
    · exact chunksL_256 k _ c h
def packL (l : List Pge) : List (List UInt8) := chunksL (hdsN l.length) (idxL l) ++ l.map fun p => filledL p.2
theorem packL_len (l : List Pge) : (packL l).length = blocksN l.length := by
  unfold packL blocksN; rw [List.length_append, chunksL_len, List.length_map]
theorem fit256 {l : List UInt8} (h : l.length = 256) : filledL l = l := by unfold filledL; rw [h]; simp
end Go.Proofs.YtmchjbgobiagiaaGreat

namespace Go.Proofs.YtmchjbgobiagiaaGreat
open Go Go.Proofs Go.Shelf
set_option linter.unusedVariables false
def laySortPages_ren : Go.Shelf.Ren := ⟨fun | 6 => 63 | 15 => 90 | 14 => 89 | 28 => 114 | 29 => 115 | 20 => 106 | 21 => 107 | 22 => 108 | 23 => 109 | 24 => 110 | 25 => 111 | 26 => 112 | 27 => 113 | 46 => 120 | 47 => 121 | 48 => 122 | 49 => 123 | 50 => 124 | 57 => 128 | n => n, fun | 22 => 102 | 24 => 116 | 25 => 119 | 3 => 3 | 39 => 94 | 0 => 0 | 53 => 162 | 55 => 58 | 4 => 4 | 46 => 156 | 45 => 155 | 50 => 64 | 5 => 5 | 9 => 9 | 66 => 165 | 70 => 169 | 76 => 175 | 77 => 86 | n => n, fun | n => n⟩
theorem laySortPages : Go.Proofs.SlLaysF0.n6 Tryz.prog laySortPages_ren := {
    mixed := by kernel_rfl,
    f6 := ⟨Tryz.f63.name, by decide, Tryz.func63.trans (congrArg some (by kernel_rfl))⟩,
    f14 := ⟨Tryz.f89.name, by decide, Tryz.func89.trans (congrArg some (by kernel_rfl))⟩,
    f15 := Tryz.func90.trans (congrArg some (by kernel_rfl)),
    f20 := ⟨Tryz.f106.name, by decide, Tryz.func106.trans (congrArg some (by kernel_rfl))⟩,
    f21 := ⟨Tryz.f107.name, by decide, Tryz.func107.trans (congrArg some (by kernel_rfl))⟩,
    f22 := ⟨Tryz.f108.name, by decide, Tryz.func108.trans (congrArg some (by kernel_rfl))⟩,
    f23 := ⟨Tryz.f109.name, by decide, Tryz.func109.trans (congrArg some (by kernel_rfl))⟩,
    f24 := ⟨Tryz.f110.name, by decide, Tryz.func110.trans (congrArg some (by kernel_rfl))⟩,
    f25 := ⟨Tryz.f111.name, by decide, Tryz.func111.trans (congrArg some (by kernel_rfl))⟩,
    f26 := ⟨Tryz.f112.name, by decide, Tryz.func112.trans (congrArg some (by kernel_rfl))⟩,
    f27 := ⟨Tryz.f113.name, by decide, Tryz.func113.trans (congrArg some (by kernel_rfl))⟩,
    f28 := Tryz.func114.trans (congrArg some (by kernel_rfl)),
    f29 := Tryz.func115.trans (congrArg some (by kernel_rfl)),
    f46 := ⟨Tryz.f120.name, by decide, Tryz.func120.trans (congrArg some (by kernel_rfl))⟩,
    f47 := Tryz.func121.trans (congrArg some (by kernel_rfl)),
    f48 := Tryz.func122.trans (congrArg some (by kernel_rfl)),
    f49 := ⟨Tryz.f123.name, by decide, Tryz.func123.trans (congrArg some (by kernel_rfl))⟩,
    f50 := ⟨Tryz.f124.name, by decide, Tryz.func124.trans (congrArg some (by kernel_rfl))⟩,
    f57 := ⟨Tryz.f128.name, by decide, Tryz.func128.trans (congrArg some (by kernel_rfl))⟩,
    t0 := Tryz.underlying0,
    a0 := Tryz.isAgg0,
    z0 := Tryz.sizeOf0,
    v0 := Tryz.zeroValue0,
    t3 := Tryz.underlying3,
    a3 := Tryz.isAgg3,
    z3 := Tryz.sizeOf3,
    v3 := Tryz.zeroValue3,
    t4 := Tryz.underlying4,
    a4 := Tryz.isAgg4,
    z4 := Tryz.sizeOf4,
    v4 := Tryz.zeroValue4,
    t5 := Tryz.underlying5,
    a5 := Tryz.isAgg5,
    z5 := Tryz.sizeOf5,
    v5 := Tryz.zeroValue5,
    t9 := Tryz.underlying9,
    a9 := Tryz.isAgg9,
    z9 := Tryz.sizeOf9,
    v9 := Tryz.zeroValue9,
    t22 := Tryz.underlying102,
    a22 := Tryz.isAgg102,
    z22 := Tryz.sizeOf102,
    v22 := Tryz.zeroValue102,
    t25 := Tryz.underlying119,
    a25 := Tryz.isAgg119,
    z25 := Tryz.sizeOf119,
    v25 := Tryz.zeroValue119,
    t39 := Tryz.underlying94,
    a39 := Tryz.isAgg94,
    z39 := Tryz.sizeOf94,
    v39 := Tryz.zeroValue94,
    t45 := Tryz.underlying155,
    a45 := Tryz.isAgg155,
    z45 := Tryz.sizeOf155,
    v45 := Tryz.zeroValue155,
    t46 := Tryz.underlying156,
    a46 := Tryz.isAgg156,
    z46 := Tryz.sizeOf156,
    v46 := Tryz.zeroValue156,
    t50 := Tryz.underlying64,
    a50 := Tryz.isAgg64,
    z50 := Tryz.sizeOf64,
    v50 := Tryz.zeroValue64,
    t53 := Tryz.underlying162,
    a53 := Tryz.isAgg162,
    z53 := Tryz.sizeOf162,
    v53 := Tryz.zeroValue162,
    t55 := Tryz.underlying58,
    a55 := Tryz.isAgg58,
    z55 := Tryz.sizeOf58,
    v55 := Tryz.zeroValue58,
    t66 := Tryz.underlying165,
    a66 := Tryz.isAgg165,
    z66 := Tryz.sizeOf165,
    v66 := Tryz.zeroValue165,
    t70 := Tryz.underlying169,
    a70 := Tryz.isAgg169,
    z70 := Tryz.sizeOf169,
    v70 := Tryz.zeroValue169,
    t76 := Tryz.underlying175,
    a76 := Tryz.isAgg175,
    z76 := Tryz.sizeOf175,
    v76 := Tryz.zeroValue175,
    t77 := Tryz.underlying86,
    a77 := Tryz.isAgg86,
    z77 := Tryz.sizeOf86,
    v77 := Tryz.zeroValue86 }
def layJoin_ren : Go.Shelf.Ren := ⟨fun | 156 => 79 | 165 => 99 | 166 => 100 | 169 => 101 | 240 => 117 | 241 => 118 | 276 => 125 | 277 => 126 | n => n, fun | 31 => 49 | 9 => 9 | 3 => 3 | 4 => 4 | 0 => 0 | 20 => 20 | 72 => 145 | 76 => 148 | 70 => 143 | 37 => 106 | 75 => 147 | 127 => 164 | 164 => 171 | 5 => 5 | 80 => 124 | n => n, fun | n => n⟩
theorem layJoin : Go.Proofs.Lays.n156 Tryz.prog layJoin_ren := {
    mixed := by kernel_rfl,
    f156 := Tryz.func79.trans (congrArg some (by kernel_rfl)),
    f165 := Tryz.func99.trans (congrArg some (by kernel_rfl)),
    f166 := Tryz.func100.trans (congrArg some (by kernel_rfl)),
    f169 := Tryz.func101.trans (congrArg some (by kernel_rfl)),
    f240 := Tryz.func117.trans (congrArg some (by kernel_rfl)),
    f241 := Tryz.func118.trans (congrArg some (by kernel_rfl)),
    f276 := Tryz.func125.trans (congrArg some (by kernel_rfl)),
    f277 := Tryz.func126.trans (congrArg some (by kernel_rfl)),
    t0 := Tryz.underlying0,
    a0 := Tryz.isAgg0,
    z0 := Tryz.sizeOf0,
    v0 := Tryz.zeroValue0,
    t3 := Tryz.underlying3,
    a3 := Tryz.isAgg3,
    z3 := Tryz.sizeOf3,
    v3 := Tryz.zeroValue3,
    t4 := Tryz.underlying4,
    a4 := Tryz.isAgg4,
    z4 := Tryz.sizeOf4,
    v4 := Tryz.zeroValue4,
    t9 := Tryz.underlying9,
    a9 := Tryz.isAgg9,
    z9 := Tryz.sizeOf9,
    v9 := Tryz.zeroValue9,
    t20 := Tryz.underlying20,
    a20 := Tryz.isAgg20,
    z20 := Tryz.sizeOf20,
    v20 := Tryz.zeroValue20,
    t31 := Tryz.underlying49,
    a31 := Tryz.isAgg49,
    z31 := Tryz.sizeOf49,
    v31 := Tryz.zeroValue49,
    t37 := Tryz.underlying106,
    a37 := Tryz.isAgg106,
    z37 := Tryz.sizeOf106,
    v37 := Tryz.zeroValue106,
    t70 := Tryz.underlying143,
    a70 := Tryz.isAgg143,
    z70 := Tryz.sizeOf143,
    v70 := Tryz.zeroValue143,
    t72 := Tryz.underlying145,
    a72 := Tryz.isAgg145,
    z72 := Tryz.sizeOf145,
    v72 := Tryz.zeroValue145,
    t75 := Tryz.underlying147,
    a75 := Tryz.isAgg147,
    z75 := Tryz.sizeOf147,
    v75 := Tryz.zeroValue147,
    t76 := Tryz.underlying148,
    a76 := Tryz.isAgg148,
    z76 := Tryz.sizeOf148,
    v76 := Tryz.zeroValue148,
    t127 := Tryz.underlying164,
    a127 := Tryz.isAgg164,
    z127 := Tryz.sizeOf164,
    v127 := Tryz.zeroValue164,
    t164 := Tryz.underlying171,
    a164 := Tryz.isAgg171,
    z164 := Tryz.sizeOf171,
    v164 := Tryz.zeroValue171 }
end Go.Proofs.YtmchjbgobiagiaaGreat

namespace Go.Ann
open Go Go.RowKit
set_option linter.unusedVariables false
set_option linter.unusedSimpArgs false
def byteV (b : UInt8) : Value := .int .u8 b.toNat
theorem strCells_ofL (l : List UInt8) : Lib.strCells (ofL l) = l.map byteV := by
  unfold Lib.strCells ofL
  simp only [List.map_inj_left]
  intro a _; rfl
section
variable {P : Program} {W0 w w' : World} {F : Nat → Prop} {L : List Res} {I : List Inv} {K : Value → World → Prop}
theorem St.appendS {t u ty e n : Nat} {cs : Array Bool} {v : Value} {xs : List Value} (h : St W0 w F L I) (i : Nat) (hi : L[i]? = some (.row v e 1 n xs))
    (hm : mkI P t = some (e, 1, 1, .int .u8 0)) (hu : P.underlying u = some .string) (l : List UInt8) (hb : n + l.length ≤ 140737488355328)
    (hK : ∀ v' w', St W0 w' F (L.set i (.row v' e 1 (n + l.length) (xs ++ l.map byteV))) I → Chg (fun k => v.ownBlock = some k) w w' → (v' = .slice none 0 0 ↔ v = .slice none 0 0 ∧ l = []) → K v' w') :
    rawB P .append #[t, u] ty cs [v, .string (ofL l)] w K := by
  have hr := h.row i hi
  obtain ⟨inf, ht, hinf, hzz, hsi, hby⟩ := mkI_some hm
  have hsz : (ofL l).size = l.length := by simp [ofL, ByteArray.size]
  obtain ⟨v', w', h1, h2, h3, h4⟩ := Lib.run_append_own_string (P := P) (w := w) W0.heap.size t u ty e inf ht hu hinf hzz (by first | exact hsi | exact hsi.symm) (by first | exact hby | exact hby.symm) v n xs hr (ofL l) (by rw [hsz]; have : maxLen = 9223372036854775807 := (by decide); omega) (by rw [hsz]; exact hb) h.size
  have own : ∀ k, v'.ownBlock = some k → v.ownBlock = some k ∨ w.heap.size ≤ k := by
    have hml : maxLen = 9223372036854775807 := by decide
    rcases hr.2 with ⟨rfl, rfl⟩ | ⟨g, cap, cur, rfl, hbg, hg, hnc, hcm, hcs, htake⟩
    · rcases Nat.eq_zero_or_pos l.length with h0 | h0
      · have := h4.2 ⟨rfl, by rw [hsz]; exact h0⟩
        subst this
        intro k hk; cases hk
      · have hrun := run_append_nil_string (P := P) (w := w) t u ty e inf (.int .u8 0) ht hu hinf hzz (ofL l) (by omega) (by omega) (by rw [hsz]; first | rw [hby] | rw [← hby]; omega)
        rw [h1] at hrun
        simp only [Result.ok.injEq] at hrun
        rw [hrun.1]
        intro k hk
        simp only [Value.ownBlock, Option.some.injEq] at hk
        exact .inr (by omega)
    · by_cases hroom : n + (ofL l).size ≤ cap
      · have hcs' : cur.size = cap := by simpa using hcs
        have hrun := Lib.run_append_room_string (P := P) (w := w) t u ty e inf ht hu hinf (by first | exact hsi | exact hsi.symm) g n cap cur hg (ofL l) hroom (by omega)
        rw [h1] at hrun
        simp only [Result.ok.injEq] at hrun
        rw [hrun.1]
        intro k hk
        exact .inl hk
      · have holds : ∀ j u, xs[j]? = some u → w.cell? ((⟨g, 0, none⟩ : Addr).add j) = some u := hr.cells (g := g) rfl
        have hxl : xs.length = n := by simpa using hr.1
        have hrun := Lib.run_append_grow_string (P := P) (w := w) t u ty e inf (.int .u8 0) ht hu hinf hzz ⟨g, 0, none⟩ n cap xs (by first | rw [hsi] | rw [← hsi]; simpa using hxl) holds (ofL l) (by omega) (by omega) (by first | rw [hby] | rw [← hby]; exact growslice_fits (by omega) (by omega))
        rw [h1] at hrun
        simp only [Result.ok.injEq] at hrun
        rw [hrun.1]
        intro k hk
        simp only [Value.ownBlock, Option.some.injEq] at hk
        exact .inr (by omega)
  rw [hsz, strCells_ofL] at h2
  rw [hsz] at h4
  exact ⟨v', w', by simp only [builtin, Sem.run_bind, h1, Result.andThen_ok, Sem.run_pure], hK v' w' (h.grow i hi h3 h2 own) ((Chg.refl _ w).grown h3 fun k hk _ => hk) (h4.trans (by rw [List.length_eq_zero_iff]))⟩
theorem chg_freeze {S : Nat → Prop} {w0 : World} (h : Chg S w0 w) (g n : Nat) (hg : S g ∨ w0.heap.size ≤ g) : Chg S w0 (w.freeze ⟨g, 0, none⟩ n) := by
  have hf : ∀ k, k ≠ g → (w.freeze ⟨g, 0, none⟩ n).heap[k]? = w.heap[k]? := fun k hk => by
    unfold World.freeze
    split
    · rfl
    · simp only [Array.getElem?_modify]
      rw [if_neg (fun e => hk e.symm)]
  have hs : (w.freeze ⟨g, 0, none⟩ n).heap.size = w.heap.size := by
    unfold World.freeze
    split
    · rfl
    · simp only [Array.size_modify]
  refine ⟨?_, ?_, ?_, by rw [hs]; exact h.size, fun k hk hS => ?_⟩
  · have : (w.freeze ⟨g, 0, none⟩ n).os = w.os := by unfold World.freeze; split <;> rfl
    rw [this]; exact h.os
  · have : (w.freeze ⟨g, 0, none⟩ n).tape = w.tape := by unfold World.freeze; split <;> rfl
    rw [this]; exact h.tape
  · have : (w.freeze ⟨g, 0, none⟩ n).output = w.output := by unfold World.freeze; split <;> rfl
    rw [this]; exact h.output
  · rw [hf k (fun e => ?_)]
    · exact h.block k hk hS
    · subst e
      rcases hg with hg | hg
      · exact hS hg
      · omega
theorem rawB_sliceData {ats : Array TypeId} {ty e : TypeId} {cs : Array Bool} {a : Option Addr} {n c : Nat} (hp : P.underlying ty = some (.pointer e)) (h0 : a = none ∧ c = 0 ∨ 0 < c) (hK : K (.pointer a) w) : rawB P .unsafeSliceData ats ty cs [.slice a n c] w K := by
  refine ⟨_, w, ?_, hK⟩
  have : (Builtin.unsafeSliceData_ ats ty #[.slice a n c]).run P w = .ok (.pointer a) w := by
    rcases h0 with ⟨rfl, rfl⟩ | h0
    · rfl
    · cases a with
      | none => rfl
      | some a => exact Lib.run_unsafeSliceData_row _ _ _ _ _ _ (by omega)
  simp only [builtin, List.toArray, Sem.run_bind, this, Result.andThen_ok, Sem.run_pure]
theorem ofL_toArray (l : List UInt8) : (⟨l.toArray⟩ : ByteArray) = ofL l := by simp [ofL]
theorem St.unsafeS {pt it ty e n : Nat} {cs : Array Bool} {a : Option Addr} {c : Nat} {l : List UInt8} (h : St W0 w F L I) (i : Nat) (hi : L[i]? = some (.row (.slice a n c) e 1 n (l.map byteV)))
    (hp : P.underlying pt = some (.pointer e)) (hc : P.cellsOf e = 1) (hK : ∀ w', St W0 w' F (L.set i (.row (.slice none 0 0) e 1 0 [])) I → Chg (fun k => (Value.slice a n c).ownBlock = some k) w w' → K (.string (ofL l)) w') :
    rawB P .unsafeString #[pt, it] ty cs [.pointer a, .int .i64 n] w K := by
  have hr := h.row i hi
  have hln : l.length = n := by have := hr.1; simpa using this
  have nil : ∀ w', Res.ok w' W0.heap.size (.row (.slice none 0 0) e 1 0 []) := fun w' => ⟨by simp, .inl ⟨rfl, rfl⟩⟩
  rcases Nat.eq_zero_or_pos n with h0 | h0
  · subst h0
    obtain rfl : l = [] := List.eq_nil_of_length_eq_zero hln
    refine ⟨.string (ofL []), w, ?_, hK w (h.upd i hi (Chg.refl _ _) _ (nil w) fun k hk => by cases hk) (Chg.refl _ _)⟩
    have := Lib.run_unsafeString_none (P := P) w pt it ty a
    have e0 : (ofL [] : ByteArray) = .empty := rfl
    simp only [builtin, List.toArray, Sem.run_bind, Result.andThen_ok, Sem.run_pure]
    have e1 : ((0 : Nat) : Int) = 0 := rfl
    rw [e1]
    show Result.andThen ((Builtin.unsafeString_ #[pt, it] ty #[.pointer a, .int .i64 0]).run P w) _ = _
    rw [this, e0]; rfl
  · rcases hr.2 with ⟨_, hz⟩ | ⟨g, cap, cur, hv, hbg, hg, hnc, hcm, hcs, htake⟩
    · omega
    simp only [Value.slice.injEq, true_and] at hv
    obtain ⟨rfl, rfl⟩ := hv
    have hml : maxLen = 9223372036854775807 := by decide
    have hrun := Lib.run_unsafeString_row (P := P) w pt it ty e hp hc g cur.size (by simp [World.shape?, hg]) l (by intro hl; rw [hl] at hln; simp at hln; omega) (by omega) (by omega) (fun j x hx => hr.cells (g := g) rfl j _ (by rw [List.getElem?_map, hx]; rfl))
    rw [hln, ofL_toArray] at hrun
    have hch : Chg (fun k => (Value.slice (some ⟨g, 0, none⟩) n c).ownBlock = some k) w (w.freeze ⟨g, 0, none⟩ n) := chg_freeze (Chg.refl _ _) g n (.inl rfl)
    refine ⟨.string (ofL l), w.freeze ⟨g, 0, none⟩ n, ?_, hK _ (h.upd i hi hch _ (nil _) fun k hk => by cases hk) hch⟩
    simp only [builtin, List.toArray, Sem.run_bind, Result.andThen_ok, Sem.run_pure]
    show Result.andThen ((Builtin.unsafeString_ #[pt, it] ty #[.pointer (some ⟨g, 0, none⟩), .int .i64 n]).run P w) _ = _
    rw [hrun]; rfl
end
end Go.Ann

namespace Go.Proofs.YtmchjbgobiagiaaGreat
set_option linter.unusedSimpArgs false
set_option linter.unusedVariables false
set_option maxRecDepth 100000
open Go Go.Ann Go.RowKit Go.WideShapes Go.Shelf
def BuL (b : Nat) (p v : Value) (bs : List UInt8) : List Res := [.blk b #[p, v] 145, .row v 5 1 bs.length (bs.map byteV)]
structure BuOk (b : Nat) (p v : Value) (bs : List UInt8) : Prop where
  ptr : p = .pointer none ∨ p = .pointer (some ⟨b, 0, none⟩)
  nil : bs = [] → v = .slice none 0 0
theorem goCC : goFunc Tryz.prog 117 = true := by kernel_rfl
theorem x72 : Builder.X72 Tryz.prog layJoin_ren := ⟨by kernel_rfl, by kernel_rfl⟩
section
variable {W0 w : World} {F : Nat → Prop} {L : List Res} {I : List Inv} {b : Nat} {p v : Value} {bs : List UInt8}
theorem copyCheck_ok (h : St W0 w F (BuL b p v bs ++ L) I) (ok : BuOk b p v bs) :
    Ret Tryz.prog 117 [.pointer (some ⟨b, 0, none⟩)] w fun u w' => u = .tuple #[] ∧ St W0 w' F (BuL b (.pointer (some ⟨b, 0, none⟩)) v bs ++ L) I := by
  have hb := h.blk 0 rfl
  have L240 : Lays.n240 Tryz.prog layJoin_ren := { layJoin with }
  rcases ok.ptr with rfl | rfl
  · refine (Any.Builder_copyCheck_fresh L240 x72 b w (hb.cell 0) (by unfold World.shape?; rw [show w.heap[b]? = _ from hb]; rfl) (hb.frozen 0)).mono ?_
    rintro e w' ⟨rfl, rfl⟩
    exact ⟨_, rfl, rfl, h.set 0 rfl 0 (.pointer (some ⟨b, 0, none⟩))⟩
  · refine (Any.Builder_copyCheck_used L240 x72 b w (hb.cell 0)).mono ?_
    rintro e w' ⟨rfl, rfl⟩
    exact ⟨_, rfl, rfl, h⟩
theorem writeS_ok (s : List UInt8) (h : St W0 w F (BuL b p v bs ++ L) I) (ok : BuOk b p v bs) (hl : bs.length + s.length ≤ 140737488355328) :
    Ret Tryz.prog 100 [.pointer (some ⟨b, 0, none⟩), .string (ofL s)] w fun u w' => ∃ p' v', BuOk b p' v' (bs ++ s) ∧ St W0 w' F (BuL b p' v' (bs ++ s) ++ L) I := by
  refine ent100 _ _ _ _ ?_
  simp (disch := first | omega | exact okFill_t rfl | exact okSize_t rfl | exact fun h => h | (simp only [World.size_alloc, World.size_drew, World.size_setCell, size_fill, bytesW]; omega)) only [go_sem, c100, c100S0, c100S1, goCC]
  refine Ret.mono (copyCheck_ok h ok) ?_
  rintro _ w2 ⟨rfl, h2⟩
  have r2 := h2.rules 0 rfl
  obtain ⟨a, c, rfl, _⟩ := own_slice (h2.row 1 rfl)
  simp (disch := first | omega | exact okFill_t rfl | exact okSize_t rfl | exact fun h => h | (simp only [World.size_alloc, World.size_drew, World.size_setCell, size_fill, bytesW]; omega)) only [go_sem, c100, c100S0, c100S1, r2]
  refine h2.appendS 1 rfl (by kernel_rfl) Tryz.underlying9 s hl ?_
  intro v3 w3 h3 c3 hn
  obtain ⟨a3, c3', rfl, _⟩ := own_slice (h3.row 1 rfl)
  have r3 := h3.rules 0 rfl
  simp (disch := first | omega | exact okFill_t rfl | exact okSize_t rfl | exact fun h => h | (simp only [World.size_alloc, World.size_drew, World.size_setCell, size_fill, bytesW]; omega)) only [go_sem, c100, c100S0, c100S1, r3]
  refine ⟨.pointer (some ⟨b, 0, none⟩), .slice a3 (bs.length + s.length) c3', ⟨.inr rfl, fun hnil => ?_⟩, st_recast (h3.set 0 rfl 1 (.slice a3 (bs.length + s.length) c3')) (by simp only [BuL, List.length_append, List.map_append]; rfl)⟩
  rw [List.append_eq_nil_iff] at hnil
  exact hn.2 ⟨ok.nil hnil.1, hnil.2⟩
theorem stringS_ok (h : St W0 w F (BuL b p v bs ++ L) I) (ok : BuOk b p v bs) (hl : bs.length ≤ 140737488355328) :
    Ret Tryz.prog 101 [.pointer (some ⟨b, 0, none⟩)] w fun u w' => u = .string (ofL bs) ∧ St W0 w' F L I := by
  refine ent101 _ _ _ ?_
  obtain ⟨a, c, rfl, hc⟩ := own_slice (h.row 1 rfl)
  simp (disch := first | omega | exact okFill_t rfl | exact okSize_t rfl | exact fun h => h | (simp only [World.size_alloc, World.size_drew, World.size_setCell, size_fill, bytesW]; omega)) only [go_sem, c101, c101S0]
  refine c101draw0 (Same (fun k => k = b) _) (Same.refl _ _) ?_
  have h2 := h.drew
  have r2 := h2.rules 0 rfl
  have l2 := h2.low 0 rfl
  generalize w.drew = w2 at h2 r2 l2 ⊢
  simp (disch := first | omega | exact okFill_t rfl | exact okSize_t rfl | exact fun h => h | (simp only [World.size_alloc, World.size_drew, World.size_setCell, size_fill, bytesW]; omega)) only [go_sem, c101, c101S0, c101D0, r2]
  have h0 : a = none ∧ c = 0 ∨ 0 < c := by
    rcases Nat.eq_zero_or_pos bs.length with hz | hz
    · have := ok.nil (List.eq_nil_of_length_eq_zero hz)
      simp only [Value.slice.injEq] at this
      exact .inl ⟨this.1, this.2.2⟩
    · exact .inr (by omega)
  have same : ∀ w', Chg (fun k => (Value.slice a bs.length c).ownBlock = some k) w2 w' → Same (fun k => k = b) w2 w' := fun w' hc k hk => by
    subst hk
    exact hc.block k l2.2 fun e => h2.ne 1 0 rfl rfl (by decide) (k := k) e rfl
  refine rawB_sliceData (e := 5) Tryz.underlying164 h0 ?_
  simp (disch := first | omega | exact okFill_t rfl | exact okSize_t rfl | exact fun h => h | (simp only [World.size_alloc, World.size_drew, World.size_setCell, size_fill, bytesW]; omega)) only [go_sem, c101, c101S0]
  refine ⟨Same.refl _ _, h2.unsafeS 1 rfl Tryz.underlying164 (by kernel_rfl) ?_⟩
  intro w3 h3 c3
  simp (disch := first | omega | exact okFill_t rfl | exact okSize_t rfl | exact fun h => h | (simp only [World.size_alloc, World.size_drew, World.size_setCell, size_fill, bytesW]; omega)) only [go_sem, c101, c101S0]
  exact ⟨same _ c3, h3.sub ((List.sublist_cons_self _ _).trans (List.sublist_cons_self _ _))⟩
end
end Go.Proofs.YtmchjbgobiagiaaGreat

namespace Go.Proofs.YtmchjbgobiagiaaGreat
set_option linter.unusedSimpArgs false
set_option linter.unusedVariables false
set_option maxRecDepth 100000
open Go Go.Ann Go.RowKit Go.WideShapes Go.Shelf
theorem full_ok (l : List UInt8) (w : World) (h : l.length ≤ 256) :
    Ret Tryz.prog 116 [.string (ofL l)] w fun v w' => v = .string (ofL (filledL l)) ∧ Below w.heap.size w w' := by
  refine ent116 _ _ _ ?_
  simp (disch := first | omega | exact okFill_t rfl | exact okSize_t rfl | exact fun h => h | (simp only [World.size_alloc, World.size_drew, World.size_setCell, size_fill, bytesW]; omega)) only [go_sem, c116]
  refine ⟨⟨by omega, by omega⟩, ?_⟩
  refine msW_one ty106mkI rfl (by omega) (by omega) (by omega) (by omega) ?_
  simp (disch := first | omega | exact okFill_t rfl | exact okSize_t rfl | exact fun h => h | (simp only [World.size_alloc, World.size_drew, World.size_setCell, size_fill, bytesW]; omega)) only [go_sem, c116]
  have e : ((256 : Int) - (l.length : Int)).toNat = 256 - l.length := by omega
  rw [e]
  exact ⟨_, List.length_replicate, bytesAt_new w (256 - l.length) _, by rw [List.length_replicate]; omega, rfl, (Below.refl _ _).alloc (Nat.le_refl _) _⟩
theorem heads_ok (n : Nat) (w : World) (hn : n ≤ 4294967296) :
    Ret Tryz.prog 80 [.int .i64 n] w fun v w' => v = .int .i64 (hdsN n) ∧ w' = w := by
  refine ent80 _ _ _ ?_
  simp (disch := first | omega | exact okFill_t rfl | exact okSize_t rfl | exact fun h => h | (simp only [World.size_alloc, World.size_drew, World.size_setCell, size_fill, bytesW]; omega)) only [go_sem, c80]
  have e : (4 * (n : Int) + 4 + 256 - 1).tdiv 256 = (hdsN n : Nat) := by
    rw [Int.tdiv_eq_ediv_of_nonneg (by omega)]
    unfold hdsN; omega
  have hb : hdsN n ≤ 4294967296 := by unfold hdsN; omega
  rw [e]
  exact ⟨by constructor <;> omega, by constructor <;> omega, by constructor <;> omega, by constructor <;> omega, by constructor <;> omega, rfl⟩
theorem chunk_get : ∀ (H : Nat) (S : List UInt8) (k : Nat) (hk : k < (chunksL H S).length), (chunksL H S)[k] = filledL ((S.drop (256 * k)).take 256)
  | 0, _, _, hk => by rw [chunksL_len] at hk; omega
  | H + 1, S, 0, _ => rfl
  | H + 1, S, k + 1, hk => by
    have := chunk_get H (S.drop 256) k (by rw [chunksL_len] at *; omega)
    rw [List.drop_drop, show 256 + 256 * k = 256 * (k + 1) by omega] at this
    exact this
theorem strE_snoc (xs : List (List UInt8)) (s : List UInt8) : (xs ++ [s]).flatMap strE = xs.flatMap strE ++ strE s := by rw [List.flatMap_append]; simp
section
variable {W0 w : World} {F : Nat → Prop} {L : List Res} {I : List Inv} {v : Value} {l : List Pge}
theorem pack_ok (h : St W0 w F L (.rd 2 pendV v l :: I)) (hl : l.length ≤ 1024) (hp : ∀ p ∈ l, 0 ≤ p.1 ∧ p.1 < 2048 ∧ p.2.length = 256) :
    Ret Tryz.prog 92 [v] w fun u w' => ∃ vo, u = .tuple #[vo, .int .i64 0] ∧ St W0 w' F (.row vo 9 1 (packL l).length ((packL l).flatMap strE) :: L) (.rd 2 pendV v l :: I) := by
  obtain ⟨a, c, rfl, hac⟩ := (h.rd 0 rfl).form
  have h1 : ¬ (1024 : Int) < l.length := by omega
  refine ent92 _ _ _ ?_
  simp (disch := first | omega | exact okFill_t rfl | exact okSize_t rfl | exact fun h => h | (simp only [World.size_alloc, World.size_drew, World.size_setCell, size_fill, bytesW]; omega)) only [go_sem, c92, c92S0, c92S1, c92S2, c92S3, c92S4, c92S5, c92S6, c92S7, c92S8, c92S9, c92S10, c92S11, c92S12, c92S13, c92S14, c92S15, h1]
  rw [wrap_u64_id (l.length : Int) (by omega) (by omega)]
  have s1 := (h.box #[.pointer none, .slice none 0 0] 145).nilRow 5 1
  generalize w.heap.size = b at s1 ⊢
  generalize w.alloc (.cells #[.pointer none, .slice none 0 0] 145) = w1 at s1 ⊢
  have s1 : St W0 w1 F (BuL b (.pointer none) (.slice none 0 0) [] ++ L) (.rd 2 pendV (.slice a l.length c) l :: I) := s1.perm (List.Perm.swap _ _ _)
  refine Ret.mono (fixed_ok l.length 4 w1 (by omega) (by omega)) ?_
  rintro _ w2 ⟨rfl, b2⟩
  have s2 := s1.call b2
  simp (disch := first | omega | exact okFill_t rfl | exact okSize_t rfl | exact fun h => h | (simp only [World.size_alloc, World.size_drew, World.size_setCell, size_fill, bytesW]; omega)) only [go_sem, c92, c92S0, c92S1, c92S2, c92S3, c92S4, c92S5, c92S6, c92S7, c92S8, c92S9, c92S10, c92S11, c92S12, c92S13, c92S14, c92S15]
  refine Ret.mono (writeS_ok (fixL l.length 4) s2 ⟨.inl rfl, fun _ => rfl⟩ (by rw [fixL_len]; decide)) ?_
  rintro _ w3 ⟨p3, v3, ok3, s3⟩
  rw [List.nil_append] at ok3 s3
  simp (disch := first | omega | exact okFill_t rfl | exact okSize_t rfl | exact fun h => h | (simp only [World.size_alloc, World.size_drew, World.size_setCell, size_fill, bytesW]; omega)) only [go_sem, c92, c92S0, c92S1, c92S2, c92S3, c92S4, c92S5, c92S6, c92S7, c92S8, c92S9, c92S10, c92S11, c92S12, c92S13, c92S14, c92S15]
  refine W_loopU (fun q : Nat × Value × Value => [(22, .int .i64 q.1)]) (fun q w' => q.1 ≤ l.length ∧ BuOk b q.2.1 q.2.2 (fixL l.length 4 ++ (l.take q.1).flatMap fixP) ∧ St W0 w' F (BuL b q.2.1 q.2.2 (fixL l.length 4 ++ (l.take q.1).flatMap fixP) ++ L) (.rd 2 pendV (.slice a l.length c) l :: I)) (fun q => l.length - q.1) (0, p3, v3) rfl ⟨Nat.zero_le _, by simpa using ok3, by simpa using s3⟩ ?_
  clear s1 s2 s3 ok3 b2
  rintro ⟨k, p4, v4⟩ w4 ⟨hk, ok4, s4⟩
  simp only at hk ok4 s4
  have hR := s4.rd 0 rfl
  have hbl : (fixL l.length 4 ++ (l.take k).flatMap fixP).length ≤ 4 * k + 4 := by rw [List.length_append, fixL_len, flatP_len, List.length_take]; omega
  by_cases hlt : k < l.length
  · have hlt' : (k : Int) < l.length := by omega
    obtain ⟨q, rfl⟩ := hR.ptr (by omega)
    have eL := hR.at pendV_len hlt
    obtain ⟨q0, q1, q2⟩ := hp _ (List.getElem_mem hlt)
    have c1 : ¬ l[k].1 < 0 := by omega
    have c2 : ¬ (2048 : Int) ≤ l[k].1 := by omega
    have c3 : ¬ (256 : Int) < l[k].2.length := by omega
    simp (disch := first | omega | exact okFill_t rfl | exact okSize_t rfl | exact fun h => h | (simp only [World.size_alloc, World.size_drew, World.size_setCell, size_fill, bytesW]; omega)) only [go_sem, c92, c92S0, c92S1, c92S2, c92L0, c92S3, c92S4, c92S5, c92S6, c92L1, c92S7, c92S8, c92S9, c92L2, c92S10, c92S11, c92S12, c92S13, c92S14, c92S15, c92L0, hlt', eL, pendV, c1, c2, c3]
    have ew : IntKind.u64.wrap l[k].1 = (l[k].1.toNat : Nat) := by rw [wrap_u64_id _ (by omega) (by omega)]; omega
    rw [ew]
    refine ⟨by omega, Ret.mono (fixed_ok l[k].1.toNat 4 _ (by omega) (by omega)) ?_⟩
    rintro _ w5 ⟨rfl, b5⟩
    have s5 := (s4.alloc' (.cells #[.int .i64 l[k].1, .string (ofL l[k].2)] 116)).call b5
    simp (disch := first | omega | exact okFill_t rfl | exact okSize_t rfl | exact fun h => h | (simp only [World.size_alloc, World.size_drew, World.size_setCell, size_fill, bytesW]; omega)) only [go_sem, c92, c92S0, c92S1, c92S2, c92L0, c92S3, c92S4, c92S5, c92S6, c92L1, c92S7, c92S8, c92S9, c92L2, c92S10, c92S11, c92S12, c92S13, c92S14, c92S15]
    refine Ret.mono (writeS_ok (fixP l[k]) s5 ok4 (by rw [fixP_len]; omega)) ?_
    rintro _ w6 ⟨p6, v6, ok6, s6⟩
    have e6 : fixL l.length 4 ++ (l.take k).flatMap fixP ++ fixP l[k] = fixL l.length 4 ++ (l.take (k + 1)).flatMap fixP := by
      rw [List.take_succ_eq_append_getElem hlt, List.flatMap_append, List.append_assoc]
      simp
    rw [e6] at ok6 s6
    simp (disch := first | omega | exact okFill_t rfl | exact okSize_t rfl | exact fun h => h | (simp only [World.size_alloc, World.size_drew, World.size_setCell, size_fill, bytesW]; omega)) only [go_sem, c92, c92S0, c92S1, c92S2, c92L0, c92S3, c92S4, c92S5, c92S6, c92L1, c92S7, c92S8, c92S9, c92L2, c92S10, c92S11, c92S12, c92S13, c92S14, c92S15]
    exact ⟨by constructor <;> omega, (k + 1, p6, v6), rfl, ⟨by omega, ok6, s6⟩, by simp only; omega⟩
  · have hlt' : ¬ (k : Int) < l.length := by omega
    obtain rfl : k = l.length := by omega
    rw [List.take_length] at ok4 s4 hbl
    have eI : fixL l.length 4 ++ l.flatMap fixP = idxL l := rfl
    rw [eI] at ok4 s4 hbl
    simp (disch := first | omega | exact okFill_t rfl | exact okSize_t rfl | exact fun h => h | (simp only [World.size_alloc, World.size_drew, World.size_setCell, size_fill, bytesW]; omega)) only [go_sem, c92, c92S0, c92S1, c92S2, c92L0, c92S3, c92S4, c92S5, c92S6, c92S7, c92S8, c92S9, c92S10, c92S11, c92S12, c92S13, c92S14, c92S15, c92L0, hlt']
    refine Ret.mono (stringS_ok s4 ok4 (by omega)) ?_
    rintro _ w5 ⟨rfl, s5⟩
    simp (disch := first | omega | exact okFill_t rfl | exact okSize_t rfl | exact fun h => h | (simp only [World.size_alloc, World.size_drew, World.size_setCell, size_fill, bytesW]; omega)) only [go_sem, c92, c92S0, c92S1, c92S2, c92L0, c92S3, c92S4, c92S5, c92S6, c92S7, c92S8, c92S9, c92S10, c92S11, c92S12, c92S13, c92S14, c92S15]
    refine Ret.mono (heads_ok l.length w5 (by omega)) ?_
    rintro _ w6 ⟨rfl, e6⟩
    subst w6
    simp (disch := first | omega | exact okFill_t rfl | exact okSize_t rfl | exact fun h => h | (simp only [World.size_alloc, World.size_drew, World.size_setCell, size_fill, bytesW]; omega)) only [go_sem, c92, c92S0, c92S1, c92S2, c92L0, c92S3, c92S4, c92S5, c92S6, c92S7, c92S8, c92S9, c92S10, c92S11, c92S12, c92S13, c92S14, c92S15]
    obtain ⟨H, hH⟩ : ∃ H, H = hdsN l.length := ⟨_, rfl⟩
    obtain ⟨S, hS⟩ : ∃ S, S = idxL l := ⟨_, rfl⟩
    have hSl : S.length = 4 * l.length + 4 := by rw [hS, idxL_len]
    have hHb : H ≤ 17 := by rw [hH]; unfold hdsN; omega
    have hcl := chunksL_len H S
    have s6 := s5.nilRow 9 1
    rw [← hH, ← hS]
    refine W_loopU (fun q : Nat × Value => [(7, .string (ofL (S.drop (256 * q.1)))), (8, q.2), (50, .int .i64 q.1)]) (fun q w' => q.1 ≤ H ∧ St W0 w' F (.row q.2 9 1 q.1 (((chunksL H S).take q.1).flatMap strE) :: L) (.rd 2 pendV (.slice a l.length c) l :: I)) (fun q => H - q.1) (0, .slice none 0 0) rfl ⟨Nat.zero_le _, s6⟩ ?_
    clear s6 s5 s4 ok4
    rintro ⟨k, vo⟩ w7 ⟨hk7, s7⟩
    simp only at hk7 s7
    obtain ⟨ao, co, rfl, _⟩ := own_slice (s7.row 0 rfl)
    by_cases hlt : k < H
    · have hlt' : (k : Int) < H := by omega
      obtain ⟨R, hR⟩ : ∃ R, R = S.drop (256 * k) := ⟨_, rfl⟩
      have hRl : R.length ≤ 4 * l.length + 4 := by rw [hR, List.length_drop]; omega
      rw [← hR]
      have em : min (R.length : Int) 256 = (min R.length 256 : Nat) := by omega
      simp (disch := first | omega | exact okFill_t rfl | exact okSize_t rfl | exact fun h => h | (simp only [World.size_alloc, World.size_drew, World.size_setCell, size_fill, bytesW]; omega)) only [go_sem, c92, c92S0, c92S1, c92S2, c92L0, c92S3, c92S4, c92S5, c92S6, c92L1, c92S7, c92S8, c92S9, c92L2, c92S10, c92S11, c92S12, c92S13, c92S14, c92S15, c92L1, hlt', em]
      have et : List.take (min R.length 256) R = R.take 256 := by
        rcases Nat.le_total R.length 256 with h | h
        · rw [Nat.min_eq_left h, List.take_of_length_le (Nat.le_refl _), List.take_of_length_le h]
        · rw [Nat.min_eq_right h]
      have ed : List.drop (min R.length 256) R = S.drop (256 * (k + 1)) := by
        have e0 : S.drop (256 * (k + 1)) = R.drop 256 := by rw [hR, List.drop_drop]; congr 1
        rw [e0]
        rcases Nat.le_total R.length 256 with h | h
        · rw [Nat.min_eq_left h, List.drop_of_length_le (Nat.le_refl _), List.drop_of_length_le h]
        · rw [Nat.min_eq_right h]
      rw [et]
      refine ⟨by omega, Ret.mono (full_ok (R.take 256) w7 (by rw [List.length_take]; omega)) ?_⟩
      rintro _ w8 ⟨rfl, b8⟩
      have s8 := s7.call b8
      have ec : (chunksL H S).take (k + 1) = (chunksL H S).take k ++ [filledL (R.take 256)] := by
        rw [List.take_succ_eq_append_getElem (by rw [hcl]; exact hlt), chunk_get, ← hR]
      have ones : ∀ u ∈ strE (filledL (R.take 256)), u.oneCell' = true := by simpa using strE_ones [filledL (R.take 256)]
      simp (disch := first | omega | exact okFill_t rfl | exact okSize_t rfl | exact fun h => h | (simp only [World.size_alloc, World.size_drew, World.size_setCell, size_fill, bytesW]; omega)) only [go_sem, c92, c92S0, c92S1, c92S2, c92L0, c92S3, c92S4, c92S5, c92S6, c92L1, c92S7, c92S8, c92S9, c92L2, c92S10, c92S11, c92S12, c92S13, c92S14, c92S15]
      refine bsW_ones ty49mkI rfl rfl (by decide) (by decide) ones ?_
      have hx : Rd (w8.alloc (.cells (strE (filledL (R.take 256))).toArray 9)) 1 (.slice (some ⟨w8.heap.size, 0, none⟩) 1 1) 1 (strE (filledL (R.take 256))) := rd_new (n := 1) (cs := (strE (filledL (R.take 256))).toArray) rfl
      simp (disch := first | omega | exact okFill_t rfl | exact okSize_t rfl | exact fun h => h | (simp only [World.size_alloc, World.size_drew, World.size_setCell, size_fill, bytesW]; omega)) only [go_sem, c92, c92S0, c92S1, c92S2, c92L0, c92S3, c92S4, c92S5, c92S6, c92L1, c92S7, c92S8, c92S9, c92L2, c92S10, c92S11, c92S12, c92S13, c92S14, c92S15]
      refine (s8.alloc' (.cells (strE (filledL (R.take 256))).toArray 9)).append 0 rfl ty49mkI rfl (by decide) hx ones (by omega) (by omega) ?_
      intro v9 w9 s9 c9
      simp (disch := first | omega | exact okFill_t rfl | exact okSize_t rfl | exact fun h => h | (simp only [World.size_alloc, World.size_drew, World.size_setCell, size_fill, bytesW]; omega)) only [go_sem, c92, c92S0, c92S1, c92S2, c92L0, c92S3, c92S4, c92S5, c92S6, c92L1, c92S7, c92S8, c92S9, c92L2, c92S10, c92S11, c92S12, c92S13, c92S14, c92S15]
      rw [ed]
      refine ⟨by omega, by constructor <;> omega, (k + 1, v9), rfl, ⟨by omega, st_recast s9 ?_⟩, by simp only; omega⟩
      rw [ec, strE_snoc]; rfl
    · have hlt' : ¬ (k : Int) < H := by omega
      obtain rfl : k = H := by omega
      rw [List.take_of_length_le (by rw [hcl]; omega)] at s7
      simp (disch := first | omega | exact okFill_t rfl | exact okSize_t rfl | exact fun h => h | (simp only [World.size_alloc, World.size_drew, World.size_setCell, size_fill, bytesW]; omega)) only [go_sem, c92, c92S0, c92S1, c92S2, c92L0, c92S3, c92S4, c92S5, c92S6, c92L1, c92S7, c92S8, c92S9, c92S10, c92S11, c92S12, c92S13, c92S14, c92S15, c92L1, hlt']
      refine W_loopU (fun q : Nat × Value => [(8, q.2), (68, .int .i64 q.1)]) (fun q w' => q.1 ≤ l.length ∧ St W0 w' F (.row q.2 9 1 (k + q.1) ((chunksL k S ++ (l.take q.1).map fun p => filledL p.2).flatMap strE) :: L) (.rd 2 pendV (.slice a l.length c) l :: I)) (fun q => l.length - q.1) (0, .slice ao k co) rfl ⟨Nat.zero_le _, by simpa using s7⟩ ?_
      clear s7
      rintro ⟨j, vj⟩ w8 ⟨hj, s8⟩
      simp only at hj s8
      obtain ⟨aj, cj, rfl, _⟩ := own_slice (s8.row 0 rfl)
      have hR := s8.rd 0 rfl
      by_cases hjl : j < l.length
      · have hjl' : (j : Int) < l.length := by omega
        obtain ⟨q, rfl⟩ := hR.ptr (by omega)
        have eL := hR.at pendV_len hjl
        obtain ⟨q0, q1, q2⟩ := hp _ (List.getElem_mem hjl)
        simp (disch := first | omega | exact okFill_t rfl | exact okSize_t rfl | exact fun h => h | (simp only [World.size_alloc, World.size_drew, World.size_setCell, size_fill, bytesW]; omega)) only [go_sem, c92, c92S0, c92S1, c92S2, c92L0, c92S3, c92S4, c92S5, c92S6, c92L1, c92S7, c92S8, c92S9, c92L2, c92S10, c92S11, c92S12, c92S13, c92S14, c92S15, c92L2, hjl', eL, pendV]
        refine ⟨by omega, Ret.mono (full_ok l[j].2 _ (by omega)) ?_⟩
        rintro _ w9 ⟨rfl, b9⟩
        have s9 := (s8.alloc' (.cells #[.int .i64 l[j].1, .string (ofL l[j].2)] 116)).call b9
        have ones : ∀ u ∈ strE (filledL l[j].2), u.oneCell' = true := by simpa using strE_ones [filledL l[j].2]
        simp (disch := first | omega | exact okFill_t rfl | exact okSize_t rfl | exact fun h => h | (simp only [World.size_alloc, World.size_drew, World.size_setCell, size_fill, bytesW]; omega)) only [go_sem, c92, c92S0, c92S1, c92S2, c92L0, c92S3, c92S4, c92S5, c92S6, c92L1, c92S7, c92S8, c92S9, c92L2, c92S10, c92S11, c92S12, c92S13, c92S14, c92S15]
        refine bsW_ones ty49mkI rfl rfl (by decide) (by decide) ones ?_
        have hx : Rd (w9.alloc (.cells (strE (filledL l[j].2)).toArray 9)) 1 (.slice (some ⟨w9.heap.size, 0, none⟩) 1 1) 1 (strE (filledL l[j].2)) := rd_new (n := 1) (cs := (strE (filledL l[j].2)).toArray) rfl
        simp (disch := first | omega | exact okFill_t rfl | exact okSize_t rfl | exact fun h => h | (simp only [World.size_alloc, World.size_drew, World.size_setCell, size_fill, bytesW]; omega)) only [go_sem, c92, c92S0, c92S1, c92S2, c92L0, c92S3, c92S4, c92S5, c92S6, c92L1, c92S7, c92S8, c92S9, c92L2, c92S10, c92S11, c92S12, c92S13, c92S14, c92S15]
        refine (s9.alloc' (.cells (strE (filledL l[j].2)).toArray 9)).append 0 rfl ty49mkI rfl (by decide) hx ones (by omega) (by omega) ?_
        intro v10 w10 s10 c10
        simp (disch := first | omega | exact okFill_t rfl | exact okSize_t rfl | exact fun h => h | (simp only [World.size_alloc, World.size_drew, World.size_setCell, size_fill, bytesW]; omega)) only [go_sem, c92, c92S0, c92S1, c92S2, c92L0, c92S3, c92S4, c92S5, c92S6, c92L1, c92S7, c92S8, c92S9, c92L2, c92S10, c92S11, c92S12, c92S13, c92S14, c92S15]
        refine ⟨by constructor <;> omega, (j + 1, v10), rfl, ⟨by omega, st_recast s10 ?_⟩, by simp only; omega⟩
        rw [List.take_succ_eq_append_getElem hjl, List.map_append, ← List.append_assoc, List.map_cons, List.map_nil, strE_snoc]; rfl
      · have hjl' : ¬ (j : Int) < l.length := by omega
        obtain rfl : j = l.length := by omega
        rw [List.take_length] at s8
        simp (disch := first | omega | exact okFill_t rfl | exact okSize_t rfl | exact fun h => h | (simp only [World.size_alloc, World.size_drew, World.size_setCell, size_fill, bytesW]; omega)) only [go_sem, c92, c92S0, c92S1, c92S2, c92L0, c92S3, c92S4, c92S5, c92S6, c92L1, c92S7, c92S8, c92S9, c92L2, c92S10, c92S11, c92S12, c92S13, c92S14, c92S15, c92L2, hjl']
        have ep : chunksL k S ++ l.map (fun p => filledL p.2) = packL l := by unfold packL; rw [← hH, ← hS]
        have el : (packL l).length = k + l.length := by rw [packL_len]; unfold blocksN; rw [← hH]
        rw [ep] at s8
        exact ⟨_, rfl, by rw [el]; exact s8⟩
end
end Go.Proofs.YtmchjbgobiagiaaGreat

namespace Go.Proofs.YtmchjbgobiagiaaGreat
set_option linter.unusedSimpArgs false
set_option linter.unusedVariables false
set_option maxRecDepth 100000
open Go Go.Ann Go.RowKit Go.WideShapes Go.Shelf
section
variable {W0 w : World} {F : Nat → Prop} {L : List Res} {I : List Inv} {v : Value} {b : List (List UInt8)} {l : List Pge}
theorem blocks_ok (n : Nat) (w : World) (hn : n ≤ 4294967296) :
    Ret Tryz.prog 66 [.int .i64 n] w fun v w' => v = .int .i64 (blocksN n) ∧ w' = w := by
  refine ent66 _ _ _ ?_
  simp (disch := first | omega | exact okFill_t rfl | exact okSize_t rfl | exact fun h => h | (simp only [World.size_alloc, World.size_drew, World.size_setCell, size_fill, bytesW]; omega)) only [go_sem, c66, c66S0]
  refine Ret.mono (heads_ok n w hn) ?_
  rintro _ w2 ⟨rfl, e2⟩
  subst w2
  have hb : hdsN n ≤ 4294967296 := by unfold hdsN; omega
  simp (disch := first | omega | exact okFill_t rfl | exact okSize_t rfl | exact fun h => h | (simp only [World.size_alloc, World.size_drew, World.size_setCell, size_fill, bytesW]; omega)) only [go_sem, c66, c66S0]
  exact ⟨by constructor <;> omega, by unfold blocksN; omega⟩
end
end Go.Proofs.YtmchjbgobiagiaaGreat

namespace Go.Proofs.YtmchjbgobiagiaaGreat
set_option linter.unusedSimpArgs false
set_option linter.unusedVariables false
set_option maxRecDepth 100000
open Go Go.Ann Go.RowKit Go.WideShapes
def bitM (mask : Int) (i : Nat) : Bool := decide (mask / 2 ^ (i % 64) % 2 = 1)
def cutK (cut : Int) : Nat := (max 0 (min cut 256)).toNat
def mixL (new old : List UInt8) (k : Nat) : List UInt8 := new.take k ++ old.drop k
def crashS (mask torn cut : Int) : Nat → List (Int × List UInt8) → List (List UInt8) → List (List UInt8)
  | _, [], s => s
  | i, x :: l, s => crashS mask torn cut (i + 1) l (if bitM mask i = true then s.set x.1.toNat (if (i : Int) = torn then mixL x.2 (s.getD x.1.toNat []) (cutK cut) else x.2) else s)
def crashN (m : Dk) (mask torn cut : Int) : Dk := { safe := crashS mask torn cut 0 m.late m.safe, late := [], left := -1, gone := false }
inductive After : List (List UInt8) → List (Int × List UInt8) → List (List UInt8) → Prop
  | nil (s) : After s [] s
  | skip {s x l s'} : After s l s' → After s (x :: l) s'
  | keep {s x l s'} (k : Nat) : After (s.set x.1.toNat (mixL x.2 (s.getD x.1.toNat []) k)) l s' → After s (x :: l) s'
theorem mixL_all {new old : List UInt8} (h1 : new.length = 256) (h2 : old.length = 256) : mixL new old 256 = new := by
  unfold mixL; rw [List.take_of_length_le (by omega), List.drop_of_length_le (by omega), List.append_nil]
theorem mixL_len {new old : List UInt8} {k : Nat} (h1 : new.length = 256) (h2 : old.length = 256) : (mixL new old k).length = 256 := by
  unfold mixL; rw [List.length_append, List.length_take, List.length_drop]; omega
theorem getD_256 {s : List (List UInt8)} (h : ∀ x ∈ s, x.length = 256) {i : Nat} (hi : i < s.length) : (s.getD i []).length = 256 := by
  rw [List.getD_eq_getElem?_getD, List.getElem?_eq_getElem hi]; exact h _ (List.getElem_mem _)
theorem set_256 {s : List (List UInt8)} (h : ∀ x ∈ s, x.length = 256) {i : Nat} {u : List UInt8} (hu : u.length = 256) : ∀ x ∈ s.set i u, x.length = 256 := by
  intro x hx
  rcases List.mem_or_eq_of_mem_set hx with hx | rfl
  · exact h x hx
  · exact hu
theorem getD_set_ne {s : List (List UInt8)} {i j : Nat} {u : List UInt8} (h : i ≠ j) : (s.set i u).getD j [] = s.getD j [] := by
  rw [List.getD_eq_getElem?_getD, List.getD_eq_getElem?_getD, List.getElem?_set_ne h]
theorem getD_set_eq {s : List (List UInt8)} {i : Nat} {u : List UInt8} (h : i < s.length) : (s.set i u).getD i [] = u := by
  rw [List.getD_eq_getElem?_getD, List.getElem?_set_self h]; rfl
theorem crash_after {mask torn cut : Int} : ∀ (l : List (Int × List UInt8)) (i : Nat) (s : List (List UInt8)), (∀ x ∈ s, x.length = 256) → (∀ x ∈ l, 0 ≤ x.1 ∧ x.1 < s.length ∧ x.2.length = 256) → After s l (crashS mask torn cut i l s)
  | [], _, s, _, _ => .nil s
  | x :: l, i, s, hs, hl => by
    obtain ⟨x0, x1, x2⟩ := hl x (List.mem_cons_self ..)
    have hl' := fun y hy => hl y (List.mem_cons_of_mem x hy)
    have ho := getD_256 hs (i := x.1.toNat) (by omega)
    rw [crashS]
    split
    · split
      · exact .keep (cutK cut) (crash_after l (i + 1) _ (set_256 hs (mixL_len x2 ho)) fun y hy => by rw [List.length_set]; exact hl' y hy)
      · refine .keep 256 ?_
        rw [mixL_all x2 ho]
        exact crash_after l (i + 1) _ (set_256 hs x2) fun y hy => by rw [List.length_set]; exact hl' y hy
    · exact .skip (crash_after l (i + 1) s hs hl')
theorem crash_len {mask torn cut : Int} : ∀ (l : List (Int × List UInt8)) (i : Nat) (s : List (List UInt8)), (crashS mask torn cut i l s).length = s.length
  | [], _, s => rfl
  | x :: l, i, s => by
    rw [crashS, crash_len l]
    split <;> simp
theorem After.len {s s' : List (List UInt8)} {l : List (Int × List UInt8)} (h : After s l s') : s'.length = s.length := by
  induction h with
  | nil => rfl
  | skip _ ih => exact ih
  | keep _ _ ih => rw [ih, List.length_set]
theorem After.all {s s' : List (List UInt8)} {l : List (Int × List UInt8)} (h : After s l s') : (∀ x ∈ s, x.length = 256) → (∀ x ∈ l, 0 ≤ x.1 ∧ x.1 < s.length ∧ x.2.length = 256) → ∀ x ∈ s', x.length = 256 := by
  induction h with
  | nil => intro h _; exact h
  | skip _ ih => exact fun h1 h2 => ih h1 fun y hy => h2 y (List.mem_cons_of_mem _ hy)
  | keep k _ ih =>
    intro h1 h2
    obtain ⟨x0, x1, x2⟩ := h2 _ (List.mem_cons_self ..)
    exact ih (set_256 h1 (mixL_len x2 (getD_256 h1 (by omega)))) fun y hy => by rw [List.length_set]; exact h2 y (List.mem_cons_of_mem _ hy)
theorem After.stays {s s' : List (List UInt8)} {l : List (Int × List UInt8)} (h : After s l s') {j : Nat} : (∀ x ∈ l, x.1.toNat ≠ j) → s'.getD j [] = s.getD j [] := by
  induction h with
  | nil => intro _; rfl
  | skip _ ih => exact fun h => ih fun y hy => h y (List.mem_cons_of_mem _ hy)
  | keep k _ ih =>
    intro h
    rw [ih fun y hy => h y (List.mem_cons_of_mem _ hy), getD_set_ne (h _ (List.mem_cons_self ..))]
theorem After.pre {s s' : List (List UInt8)} {l : List (Int × List UInt8)} (r : List (Int × List UInt8)) (h : After s l s') : After s (l ++ r) s' := by
  induction h with
  | nil s =>
    rw [List.nil_append]
    induction r with
    | nil => exact .nil s
    | cons a r ih => exact .skip ih
  | skip _ ih => exact .skip ih
  | keep k _ ih => exact .keep k ih
theorem After.one {s s' : List (List UInt8)} {x : Int × List UInt8} (h : After s [x] s') : s' = s ∨ ∃ k, s' = s.set x.1.toNat (mixL x.2 (s.getD x.1.toNat []) k) := by
  cases h with
  | skip h => cases h; exact .inl rfl
  | keep k h => cases h; exact .inr ⟨k, rfl⟩
theorem done_stays {s : List (List UInt8)} {j : Nat} : ∀ {l : List (Int × List UInt8)}, (∀ x ∈ l, x.1.toNat ≠ j) → (doneL s l).getD j [] = s.getD j [] := by
  intro l
  unfold doneL
  induction l generalizing s with
  | nil => intro _; rfl
  | cons x l ih =>
    intro h
    rw [List.foldl_cons, ih fun y hy => h y (List.mem_cons_of_mem _ hy), getD_set_ne (h _ (List.mem_cons_self ..))]
theorem done_is {s : List (List UInt8)} : ∀ {l : List (Int × List UInt8)}, (l.map fun x => x.1.toNat).Nodup → ∀ x ∈ l, x.1.toNat < s.length → (doneL s l).getD x.1.toNat [] = x.2 := by
  intro l
  unfold doneL
  induction l generalizing s with
  | nil => intro _ x hx; cases hx
  | cons a l ih =>
    intro hn x hx hlt
    rw [List.map_cons, List.nodup_cons] at hn
    rw [List.foldl_cons]
    rcases List.mem_cons.1 hx with rfl | hx
    · have : (doneL (s.set x.1.toNat x.2) l).getD x.1.toNat [] = _ := done_stays (s := s.set x.1.toNat x.2) fun y hy e => hn.1 (by rw [← e]; exact List.mem_map_of_mem hy)
      unfold doneL at this
      rw [this, getD_set_eq hlt]
    · exact ih hn.2 x hx (by rw [List.length_set]; exact hlt)
def wrsN : Dk → List (Int × List UInt8) → Dk × Int
  | m, [] => (m, 0)
  | m, x :: l => if (writeN m x.1 x.2).2 ≠ 0 then writeN m x.1 x.2 else wrsN (writeN m x.1 x.2).1 l
def batN (m : Dk) (l : List (Int × List UInt8)) : Dk × Int := if (wrsN m l).2 ≠ 0 then wrsN m l else flushN (wrsN m l).1
theorem putN_bat (m : Dk) (h : Hd) : putN m h = batN m [(((h.seq % 2 : Nat) : Int), headL h)] := by
  have e1 : wrsN m [(((h.seq % 2 : Nat) : Int), headL h)] = if (writeN m ((h.seq % 2 : Nat) : Int) (headL h)).2 ≠ 0 then writeN m ((h.seq % 2 : Nat) : Int) (headL h) else ((writeN m ((h.seq % 2 : Nat) : Int) (headL h)).1, 0) := rfl
  by_cases e : (writeN m ((h.seq % 2 : Nat) : Int) (headL h)).2 ≠ 0
  · rw [if_pos e] at e1
    unfold putN batN
    rw [e1, if_pos e]
  · rw [if_neg e] at e1
    unfold putN batN
    rw [e1, if_neg e, if_neg (by simp)]
def fillW (l : List (Int × List UInt8)) : List (Int × List UInt8) := l.map fun x => (x.1, filledL x.2)
structure Fit (n : Nat) (l : List (Int × List UInt8)) : Prop where
  all : ∀ x ∈ l, 0 ≤ x.1 ∧ x.1 < n ∧ x.2.length ≤ 256
theorem Fit.fill {n : Nat} {l : List (Int × List UInt8)} (h : Fit n l) : ∀ x ∈ fillW l, 0 ≤ x.1 ∧ x.1 < n ∧ x.2.length = 256 := by
  intro x hx
  obtain ⟨y, hy, rfl⟩ := List.mem_map.1 hx
  obtain ⟨h0, h1, h2⟩ := h.all y hy
  exact ⟨h0, h1, filledL_length h2⟩
structure Up (m : Dk) (s : List (List UInt8)) (l : List (Int × List UInt8)) : Prop where
  safe : m.safe = s
  late : m.late = l
  gone : m.gone = false
theorem useN_cases (m : Dk) : ((useN m).2 = 0 ∧ (useN m).1.gone = m.gone ∧ (m.left = -1 → (useN m).1.left = -1)) ∨ ((useN m).2 = 11 ∧ (useN m).1.gone = true ∧ m.left = 0) := by
  unfold useN
  by_cases h0 : m.left = 0
  · rw [if_pos h0]; exact .inr ⟨rfl, rfl, h0⟩
  · rw [if_neg h0]
    by_cases h1 : 0 < m.left
    · rw [if_pos h1]; exact .inl ⟨rfl, rfl, fun h => by omega⟩
    · rw [if_neg h1]; exact .inl ⟨rfl, rfl, fun h => h⟩
theorem wrs_cases {s : List (List UInt8)} (n : Nat) (hn : s.length = n) : ∀ (l : List (Int × List UInt8)) (m : Dk) (a : List (Int × List UInt8)), Up m s a → Fit n l →
    ((wrsN m l).2 = 0 ∧ Up (wrsN m l).1 s (a ++ fillW l) ∧ (m.left = -1 → (wrsN m l).1.left = -1)) ∨
    ((wrsN m l).2 = 11 ∧ m.left ≠ -1 ∧ (wrsN m l).1.gone = true ∧ (wrsN m l).1.safe = s ∧ ∃ b r, fillW l = b ++ r ∧ (wrsN m l).1.late = a ++ b)
  | [], m, a, hu, _ => by
    refine .inl ⟨rfl, ?_, fun h => h⟩
    unfold fillW
    rw [List.map_nil, List.append_nil]
    exact hu
  | x :: l, m, a, hu, hf => by
    obtain ⟨h0, h1, h2⟩ := hf.all x (List.mem_cons_self ..)
    have er : readyN m x.1 = 0 := by
      unfold readyN
      rw [if_neg (by rw [hu.gone]; decide), if_pos ⟨h0, by rw [hu.safe, hn]; exact h1⟩]
    have hlt := useN_late m
    rw [wrsN]
    rcases useN_cases m with ⟨e1, e2, e3⟩ | ⟨e1, e2, e3⟩
    · have ew : writeN m x.1 x.2 = ({ (useN m).1 with late := (useN m).1.late ++ [(x.1, filledL x.2)] }, 0) := by
        unfold writeN
        rw [if_neg (by omega), if_neg (by omega), if_pos e1]
      rw [ew, if_neg (by simp)]
      have hu' : Up { (useN m).1 with late := (useN m).1.late ++ [(x.1, filledL x.2)] } s (a ++ [(x.1, filledL x.2)]) :=
        ⟨hlt.2.trans hu.safe, by show (useN m).1.late ++ _ = _; rw [hlt.1, hu.late], e2.trans hu.gone⟩
      rcases wrs_cases n hn l _ _ hu' ⟨fun y hy => hf.all y (List.mem_cons_of_mem _ hy)⟩ with ⟨g1, g2, g3⟩ | ⟨g1, g2, g3, g4, b, r, g5, g6⟩
      · refine .inl ⟨g1, ?_, fun h => g3 (e3 h)⟩
        have : a ++ [(x.1, filledL x.2)] ++ fillW l = a ++ fillW (x :: l) := by unfold fillW; rw [List.map_cons, List.append_assoc]; rfl
        rw [this] at g2
        exact g2
      · refine .inr ⟨g1, fun h => g2 (e3 h), g3, g4, (x.1, filledL x.2) :: b, r, ?_, ?_⟩
        · unfold fillW at g5 ⊢
          rw [List.map_cons, g5]; rfl
        · rw [g6, List.append_assoc]; rfl
    · have ew : writeN m x.1 x.2 = useN m := by
        unfold writeN
        rw [if_neg (by omega), if_neg (by omega), if_neg (by omega)]
      rw [ew, if_pos (by omega)]
      exact .inr ⟨e1, by omega, e2, hlt.2.trans hu.safe, [], fillW (x :: l), rfl, by rw [hlt.1, hu.late, List.append_nil]⟩
theorem bat_cases {m : Dk} {s : List (List UInt8)} {l : List (Int × List UInt8)} (hu : Up m s []) (hf : Fit s.length l) (h0 : 0 < s.length) :
    ((batN m l).2 = 0 ∧ Up (batN m l).1 (doneL s (fillW l)) [] ∧ (m.left = -1 → (batN m l).1.left = -1)) ∨
    ((batN m l).2 = 11 ∧ m.left ≠ -1 ∧ (batN m l).1.gone = true ∧ (batN m l).1.safe = s ∧ ∃ b r, fillW l = b ++ r ∧ (batN m l).1.late = b) := by
  unfold batN
  rcases wrs_cases _ rfl l m [] hu hf with ⟨g1, g2, g3⟩ | ⟨g1, g2, g3, g4, b, r, g5, g6⟩
  · rw [if_neg (by omega)]
    rw [List.nil_append] at g2
    generalize (wrsN m l).1 = m1 at g2 g3 ⊢
    have er : readyN m1 0 = 0 := by
      unfold readyN
      rw [if_neg (by rw [g2.gone]; decide), if_pos ⟨by decide, by rw [g2.safe]; omega⟩]
    have hlt := useN_late m1
    unfold flushN
    rw [if_neg (by omega)]
    rcases useN_cases m1 with ⟨e1, e2, e3⟩ | ⟨e1, e2, e3⟩
    · rw [if_neg (by omega)]
      exact .inl ⟨rfl, ⟨by show doneL m1.safe m1.late = _; rw [g2.safe, g2.late], rfl, e2.trans g2.gone⟩, fun h => e3 (g3 h)⟩
    · rw [if_pos (by omega)]
      exact .inr ⟨e1, fun h => by have := g3 h; omega, e2, hlt.2.trans g2.safe, fillW l, [], by rw [List.append_nil], by rw [hlt.1, g2.late]⟩
  · rw [if_pos (by omega)]
    exact .inr ⟨g1, g2, g3, g4, b, r, g5, by rw [g6, List.nil_append]⟩
theorem bat_after {m : Dk} {s : List (List UInt8)} {l b r : List (Int × List UInt8)} (hs : m.safe = s) (hl : m.late = b) (e : fillW l = b ++ r) (h256 : ∀ x ∈ s, x.length = 256) (hf : Fit s.length l) (mask torn cut : Int) : After s (fillW l) (crashN m mask torn cut).safe := by
  rw [e]
  refine After.pre r ?_
  show After s b (crashS mask torn cut 0 m.late m.safe)
  rw [hs, hl]
  refine crash_after b 0 s h256 fun x hx => hf.fill x ?_
  rw [e]
  exact List.mem_append_left _ hx
end Go.Proofs.YtmchjbgobiagiaaGreat

namespace Go.Proofs.YtmchjbgobiagiaaGreat
set_option linter.unusedSimpArgs false
set_option linter.unusedVariables false
set_option maxRecDepth 100000
open Go Go.Ann Go.RowKit Go.WideShapes
theorem mixL_get {A B : List UInt8} (hA : A.length = 256) (hB : B.length = 256) (k i : Nat) : (mixL A B k)[i]? = if i < k then A[i]? else B[i]? := by
  unfold mixL
  rw [List.getElem?_append, List.length_take, hA]
  by_cases h : i < k
  · rw [if_pos h]
    by_cases h2 : i < 256
    · rw [if_pos (by omega), List.getElem?_take, if_pos h]
    · rw [if_neg (by omega), List.getElem?_drop, List.getElem?_eq_none (by omega), List.getElem?_eq_none (by omega)]
  · rw [if_neg h, if_neg (by omega), List.getElem?_drop]
    by_cases h2 : k ≤ 256
    · congr 1; omega
    · rw [List.getElem?_eq_none (by omega), List.getElem?_eq_none (by omega)]
theorem mixL_mix {A B : List UInt8} (hA : A.length = 256) (hB : B.length = 256) (j k : Nat) : mixL A (mixL A B j) k = mixL A B (max k j) := by
  refine List.ext_getElem? fun i => ?_
  rw [mixL_get hA (mixL_len hA hB), mixL_get hA hB, mixL_get hA hB]
  by_cases h1 : i < k
  · rw [if_pos h1, if_pos (by omega)]
  · rw [if_neg h1]
    by_cases h2 : i < j
    · rw [if_pos h2, if_pos (by omega)]
    · rw [if_neg h2, if_neg (by omega)]
theorem readHd_pre {b c : List UInt8} (h1 : b.length = 256) (h2 : c.length = 256) (h : b.take 40 = c.take 40) : readHd b = readHd c := by
  have e : ∀ n, n ≤ 40 → b.take n = c.take n := fun n hn => by
    have := congrArg (List.take n) h
    rwa [List.take_take, List.take_take, Nat.min_eq_left hn] at this
  have ec : ∀ i j : Nat, j ≤ 40 → cutL b i j = cutL c i j := fun i j hj => by
    unfold cutL
    show List.drop i (List.take j b) = List.drop i (List.take j c)
    rw [e j hj]
  unfold readHd
  rw [h1, h2, e 20 (by decide), e 8 (by decide), show cutL b 20 40 = cutL c 20 40 from ec 20 40 (by decide), show cutL b 8 12 = cutL c 8 12 from ec 8 12 (by decide), show cutL b 12 16 = cutL c 12 16 from ec 12 16 (by decide), show cutL b 16 20 = cutL c 16 20 from ec 16 20 (by decide)]
theorem readHd_valid {b : List UInt8} {h : Hd} (e : readHd b = some h) : 40 ≤ b.length ∧ notL (b.take 20) = cutL b 20 40 := by
  unfold readHd at e
  split at e
  · cases e
  · split at e
    · rename_i h1 h2; exact ⟨by omega, h2⟩
    · cases e
theorem headA_len {h : Hd} : (filledL (headL h)).length = 256 := filledL_length (by rw [headL_len]; decide)
theorem readHd_of_head {h : Hd} (ok : h.ok) {M : List UInt8} (hM : M.length = 256) (e : M.take 20 = head0 h) (v : notL (M.take 20) = cutL M 20 40) : readHd M = some h := by
  have e40 : M.take 40 = headL h := by
    have h1 : M.take 40 = (M.take 40).take 20 ++ (M.take 40).drop 20 := (List.take_append_drop 20 _).symm
    rw [h1, List.take_take, show min 20 40 = 20 from rfl, e]
    unfold headL
    rw [← e, v]; rfl
  have := readHd_headL ok (M.drop 40)
  rw [← e40, List.take_append_drop] at this
  exact this
theorem mix_read {h : Hd} (ok : h.ok) {B : List UInt8} (hB : B.length = 256) (hb : B = zeroB ∨ ∃ h0, readHd B = some h0) (k : Nat) :
    readHd (mixL (filledL (headL h)) B k) = none ∨ readHd (mixL (filledL (headL h)) B k) = some h ∨ readHd (mixL (filledL (headL h)) B k) = readHd B := by
  have hA := headA_len (h := h)
  have hM := mixL_len (k := k) hA hB
  have hg := fun i => mixL_get hA hB k i
  generalize hMe : mixL (filledL (headL h)) B k = M at hM hg ⊢
  by_cases v : notL (M.take 20) = cutL M 20 40
  case neg =>
    left
    unfold readHd
    rw [if_neg (by omega), if_neg v]
  have hl20 := head0_len h
  have hl40 := headL_len h
  by_cases hk : 20 ≤ k
  · right; left
    refine readHd_of_head ok hM ?_ v
    refine List.ext_getElem? fun i => ?_
    rw [List.getElem?_take]
    by_cases hi : i < 20
    · rw [if_pos hi, hg, if_pos (by omega)]
      unfold filledL headL
      rw [List.getElem?_append_left (by rw [List.length_append, notL_len, hl20]; omega), List.getElem?_append_left (by omega)]
    · rw [if_neg hi, List.getElem?_eq_none (by omega)]
  · have ec : cutL M 20 40 = cutL B 20 40 := by
      refine List.ext_getElem? fun i => ?_
      unfold cutL
      rw [List.getElem?_drop, List.getElem?_drop, List.getElem?_take, List.getElem?_take]
      show (if 20 + i < 40 then M[20 + i]? else none) = if 20 + i < 40 then B[20 + i]? else none
      by_cases hi : 20 + i < 40
      · rw [if_pos hi, if_pos hi, hg, if_neg (by omega)]
      · rw [if_neg hi, if_neg hi]
    rcases hb with hb | ⟨h0, hb⟩
    · exfalso
      have e1 : M.take 20 = List.replicate 20 255 := by
        have := congrArg notL v
        rw [notL_notL, ec, hb] at this
        rw [this]; decide
      have e2 : (M.take 20)[19]? = some 255 := by rw [e1]; rfl
      rw [List.getElem?_take, if_pos (by decide), hg, if_neg (by omega), hb] at e2
      have e3 : zeroB[19]? = some 0 := by decide
      rw [e3] at e2
      exact absurd e2 (by decide)
    · right; right
      obtain ⟨_, v2⟩ := readHd_valid hb
      have e1 : M.take 20 = B.take 20 := by
        have := congrArg notL (v.trans (ec.trans v2.symm))
        rwa [notL_notL, notL_notL] at this
      refine readHd_pre hM hB ?_
      have h1 : M.take 40 = (M.take 40).take 20 ++ (M.take 40).drop 20 := (List.take_append_drop 20 _).symm
      have h2 : B.take 40 = (B.take 40).take 20 ++ (B.take 40).drop 20 := (List.take_append_drop 20 _).symm
      rw [h1, h2, List.take_take, List.take_take, show min 20 40 = 20 from rfl, e1]
      congr 1
structure Geo (n : Nat) (h : Hd) : Prop where
  room : 1 ≤ h.room
  pages : 1 ≤ h.pages
  few : h.pages ≤ 1024
  used : h.used ≤ h.room
  fit : 2 + h.room + h.pages ≤ n
theorem Geo.fits {m : Dk} {h : Hd} (g : Geo m.safe.length h) : fitsH m h = true := by
  unfold fitsH
  rw [decide_eq_true_eq]
  have := g.fit
  exact ⟨g.room, g.pages, g.few, g.used, by omega, g.fit⟩
def nextH (h : Hd) (u : Nat) : Hd := { h with seq := h.seq + 1, used := u }
structure Top (s : List (List UInt8)) (h : Hd) : Prop where
  blocks : ∀ x ∈ s, x.length = 256
  many : s.length ≤ 2048
  geo : Geo s.length h
  low : h.seq < 1000000
  pos : 0 < h.seq
  here : readHd (s.getD (h.seq % 2) []) = some h
  there : ∀ h', readHd (s.getD ((h.seq + 1) % 2) []) = some h' → h'.seq < h.seq
theorem Top.ok {s : List (List UInt8)} {h : Hd} (t : Top s h) : h.ok := by
  have g := t.geo
  have := t.many
  have := t.low
  have := g.fit
  have := g.used
  exact ⟨by omega, by omega, by omega, by omega⟩
theorem Top.newest {m : Dk} {s : List (List UInt8)} {h : Hd} (t : Top s h) (hs : m.safe = s) (hl : m.late = []) : newestH m = some h := by
  subst hs
  have hf := t.geo.fits
  have hb : ∀ i, blkN m i = m.safe.getD i [] := fun i => by unfold blkN; rw [hl]; rfl
  have h2 : h.seq % 2 = 0 ∨ h.seq % 2 = 1 := by omega
  have here := t.here
  have there := t.there
  have pos := t.pos
  unfold newestH
  simp only [bestN, Option.getD_none]
  rcases h2 with h2 | h2
  · rw [h2] at here
    rw [show (h.seq + 1) % 2 = 1 by omega] at there
    have c0 : candH m 0 hd0.seq = some h := by
      unfold candH
      rw [hb, here]
      exact if_pos ⟨hf, pos, h2⟩
    rw [c0]
    simp only [Option.getD_some]
    have c1 : candH m 1 h.seq = none := by
      unfold candH
      rw [hb]
      cases hr : readHd (m.safe.getD 1 []) with
      | none => rfl
      | some h' =>
        have := there h' hr
        exact if_neg (fun hh => by have := hh.2.1; omega)
    rw [c1]
  · rw [h2] at here
    rw [show (h.seq + 1) % 2 = 0 by omega] at there
    cases hc : candH m 0 hd0.seq with
    | none =>
      simp only [Option.getD_none]
      have c1 : candH m 1 hd0.seq = some h := by
        unfold candH
        rw [hb, here]
        exact if_pos ⟨hf, pos, h2⟩
      rw [c1]
    | some h' =>
      simp only [Option.getD_some]
      have hlt : h'.seq < h.seq := by
        unfold candH at hc
        rw [hb] at hc
        cases hr : readHd (m.safe.getD 0 []) with
        | none => rw [hr] at hc; cases hc
        | some h'' =>
          rw [hr] at hc
          simp only at hc
          split at hc
          · simp only [Option.some.injEq] at hc
            subst hc
            exact there _ hr
          · cases hc
      have c1 : candH m 1 h'.seq = some h := by
        unfold candH
        rw [hb, here]
        exact if_pos ⟨hf, hlt, h2⟩
      rw [c1]
def Base (s : List (List UInt8)) (h : Hd) : Prop := s.getD ((h.seq + 1) % 2) [] = zeroB ∨ ∃ h', readHd (s.getD ((h.seq + 1) % 2) []) = some h'
def Home (s : List (List UInt8)) (h : Hd) (P : List (List UInt8)) : Prop := P.length = h.pages ∧ ∀ i, i < h.pages → s.getD (2 + h.room + i) [] = P.getD i []
structure Jou (s : List (List UInt8)) (h : Hd) (l : List Pge) : Prop where
  used : h.used = blocksN l.length
  jou : ∀ i, i < h.used → s.getD (2 + i) [] = (packL l).getD i []
  few : l.length ≤ 1024
  pages : ∀ p ∈ l, 0 ≤ p.1 ∧ p.1 < h.pages ∧ p.2.length = 256
  nd : (l.map Prod.fst).Nodup
structure Pend (s : List (List UInt8)) (h : Hd) (P : List (List UInt8)) (l : List Pge) : Prop where
  jou : Jou s h l
  len : P.length = h.pages
  new : ∀ p ∈ l, P.getD p.1.toNat [] = p.2
  old : ∀ i, i < h.pages → (∀ p ∈ l, p.1.toNat ≠ i) → s.getD (2 + h.room + i) [] = P.getD i []
  more : h.seq + 1 < 1000000
  slot : ∃ B k, s.getD ((h.seq + 1) % 2) [] = mixL (filledL (headL (nextH h 0))) B k ∧ B.length = 256 ∧ (B = zeroB ∨ ∃ h0, readHd B = some h0 ∧ h0.seq < h.seq)
def Recov (s : List (List UInt8)) (P : List (List UInt8)) : Prop := ∃ h, Top s h ∧ ((h.used = 0 ∧ Home s h P) ∨ ∃ l, Pend s h P l)
def homeW (h : Hd) (l : List Pge) : List (Int × List UInt8) := l.map fun p => (2 + (h.room : Int) + p.1, p.2)
theorem nextH_ok {s : List (List UInt8)} {h : Hd} (t : Top s h) {u : Nat} (hu : u ≤ h.room) : (nextH h u).ok := by
  have o := t.ok
  have := t.low
  have := o.room
  exact ⟨by show h.seq + 1 < _; omega, by show u < _; omega, o.room, o.pages⟩
section
variable {s s' : List (List UInt8)} {h : Hd} {P : List (List UInt8)} {l : List Pge} {m : Dk}
theorem homeW_fit (t : Top s h) (hp : ∀ p ∈ l, 0 ≤ p.1 ∧ p.1 < h.pages ∧ p.2.length = 256) : Fit s.length (homeW h l) := by
  refine ⟨fun x hx => ?_⟩
  obtain ⟨p, hp', rfl⟩ := List.mem_map.1 hx
  obtain ⟨h0, h1, h2⟩ := hp p hp'
  have := t.geo.fit
  exact ⟨by simp only; omega, by simp only; omega, by simp only; omega⟩
theorem homeW_mem (hp : ∀ p ∈ l, 0 ≤ p.1 ∧ p.1 < h.pages ∧ p.2.length = 256) : ∀ x ∈ fillW (homeW h l), ∃ p ∈ l, x.1.toNat = 2 + h.room + p.1.toNat ∧ x.2 = p.2 := by
  intro x hx
  obtain ⟨y, hy, rfl⟩ := List.mem_map.1 hx
  obtain ⟨p, hp', rfl⟩ := List.mem_map.1 hy
  obtain ⟨h0, h1, h2⟩ := hp p hp'
  exact ⟨p, hp', by simp only; omega, fit256 h2⟩
theorem Pend.keep (d : Pend s h P l) (t : Top s h) (hl : s'.length = s.length) (ha : ∀ x ∈ s', x.length = 256) (hs : ∀ j, (∀ p ∈ l, 2 + h.room + p.1.toNat ≠ j) → s'.getD j [] = s.getD j []) : Top s' h ∧ Pend s' h P l := by
  have g := t.geo
  have lo : ∀ j, j < 2 + h.room → s'.getD j [] = s.getD j [] := fun j hj => hs j fun p _ => by omega
  have hr := g.room
  refine ⟨⟨ha, by rw [hl]; exact t.many, by rw [hl]; exact g, t.low, t.pos, by rw [lo _ (by omega)]; exact t.here, by rw [lo _ (by omega)]; exact t.there⟩, ⟨⟨d.jou.used, fun i hi => ?_, d.jou.few, d.jou.pages, d.jou.nd⟩, d.len, d.new, fun i hi hn => ?_, d.more, ?_⟩⟩
  · have := g.used
    rw [lo _ (by omega)]; exact d.jou.jou i hi
  · rw [hs _ fun p hp e => hn p hp (by omega)]; exact d.old i hi hn
  · rw [lo _ (by omega)]; exact d.slot
theorem slot_cases (t : Top s h) (d : Pend s h P l) (k : Nat) (hm : ∀ i, i < h.pages → s.getD (2 + h.room + i) [] = P.getD i []) :
    Recov (s.set ((h.seq + 1) % 2) (mixL (filledL (headL (nextH h 0))) (s.getD ((h.seq + 1) % 2) []) k)) P := by
  obtain ⟨B, k0, e0, e1, e2⟩ := d.slot
  have g := t.geo
  have ho : (h.seq + 1) % 2 < s.length := by have := g.fit; have := g.room; omega
  have hne : (h.seq + 1) % 2 ≠ h.seq % 2 := by omega
  have hA := headA_len (h := nextH h 0)
  have hok := nextH_ok t (u := 0) (by omega)
  rw [e0, mixL_mix hA e1]
  have hM := mixL_len (k := max k k0) hA e1
  have hrd := mix_read hok e1 (by
    rcases e2 with e2 | ⟨h0, e2, _⟩
    · exact .inl e2
    · exact .inr ⟨h0, e2⟩) (max k k0)
  generalize hMe : mixL (filledL (headL (nextH h 0))) B (max k k0) = M at hM hrd ⊢
  have bl : ∀ x ∈ s.set ((h.seq + 1) % 2) M, x.length = 256 := set_256 t.blocks hM
  have hh : (s.set ((h.seq + 1) % 2) M).getD (h.seq % 2) [] = s.getD (h.seq % 2) [] := getD_set_ne hne
  have hs : (s.set ((h.seq + 1) % 2) M).getD ((h.seq + 1) % 2) [] = M := getD_set_eq ho
  have lo : ∀ j, 2 ≤ j → (s.set ((h.seq + 1) % 2) M).getD j [] = s.getD j [] := fun j hj => getD_set_ne (by omega)
  have hnx : (nextH h 0).seq = h.seq + 1 := rfl
  by_cases hn : readHd M = some (nextH h 0)
  · refine ⟨nextH h 0, ⟨bl, by rw [List.length_set]; exact t.many, by rw [List.length_set]; exact ⟨g.room, g.pages, g.few, Nat.zero_le _, g.fit⟩, by rw [hnx]; exact d.more, by rw [hnx]; omega, by rw [hnx, hs]; exact hn, fun h' hr => ?_⟩, .inl ⟨rfl, d.len, fun i hi => ?_⟩⟩
    · rw [hnx, show (h.seq + 1 + 1) % 2 = h.seq % 2 by omega, hh, t.here] at hr
      simp only [Option.some.injEq] at hr
      subst hr
      rw [hnx]; omega
    · show (s.set ((h.seq + 1) % 2) M).getD (2 + h.room + i) [] = _
      rw [lo _ (by omega)]
      exact hm i hi
  · refine ⟨h, ⟨bl, by rw [List.length_set]; exact t.many, by rw [List.length_set]; exact g, t.low, t.pos, by rw [hh]; exact t.here, fun h' hr => ?_⟩, .inr ⟨l, ⟨⟨d.jou.used, fun i hi => by rw [lo _ (by omega)]; exact d.jou.jou i hi, d.jou.few, d.jou.pages, d.jou.nd⟩, d.len, d.new, fun i hi hn => by rw [lo _ (by omega)]; exact d.old i hi hn, d.more, B, max k k0, by rw [hs, hMe], e1, e2⟩⟩⟩
    rw [hs] at hr
    rcases hrd with r | r | r
    · rw [r] at hr; cases hr
    · exact absurd r hn
    · rw [r] at hr
      rcases e2 with e2 | ⟨h0, e2, e3⟩
      · rw [e2] at hr
        have : readHd zeroB = none := readHd_zero
        rw [this] at hr; cases hr
      · rw [e2] at hr
        simp only [Option.some.injEq] at hr
        subst hr; exact e3
end
end Go.Proofs.YtmchjbgobiagiaaGreat

namespace Go.Proofs.YtmchjbgobiagiaaGreat
set_option linter.unusedSimpArgs false
set_option linter.unusedVariables false
set_option maxRecDepth 100000
open Go Go.Ann Go.RowKit Go.WideShapes
def finN (m : Dk) (h : Hd) (l : List Pge) : Dk × Int := if (batN m (homeW h l)).2 ≠ 0 then batN m (homeW h l) else putN (batN m (homeW h l)).1 (nextH h 0)
def jouW (l : List Pge) : List (Int × List UInt8) := (List.range (blocksN l.length)).map fun i : Nat => ((2 + i : Nat), (packL l).getD i [])
def comN (m : Dk) (h : Hd) (l : List Pge) : Dk × Int :=
  if (batN m (jouW l)).2 ≠ 0 then batN m (jouW l) else
  if (putN (batN m (jouW l)).1 (nextH h (blocksN l.length))).2 ≠ 0 then putN (batN m (jouW l)).1 (nextH h (blocksN l.length)) else
  finN (putN (batN m (jouW l)).1 (nextH h (blocksN l.length))).1 (nextH h (blocksN l.length)) l
structure Lost (m m' : Dk) (Q : List (List UInt8) → Prop) : Prop where
  lim : m.left ≠ -1
  gone : m'.gone = true
  crash : ∀ mask torn cut, Q (crashN m' mask torn cut).safe
theorem packL_256 (l : List Pge) (hp : ∀ p ∈ l, p.2.length = 256) : ∀ x ∈ packL l, x.length = 256 := by
  intro x hx
  unfold packL at hx
  rcases List.mem_append.1 hx with hx | hx
  · exact chunksL_256 _ _ x hx
  · obtain ⟨p, hp', rfl⟩ := List.mem_map.1 hx
    exact filledL_length (by rw [hp p hp']; decide)
section
variable {s s' : List (List UInt8)} {h : Hd} {P : List (List UInt8)} {l : List Pge} {m : Dk}
theorem Up.kept {m : Dk} (hs : m.safe = s) (hl : m.late = []) (mask torn cut : Int) : (crashN m mask torn cut).safe = s := by
  show crashS mask torn cut 0 m.late m.safe = s
  rw [hl, hs]; rfl
theorem head_fit (t : Top s h) {g : Hd} (hg : g.seq = h.seq + 1) : Fit s.length [(((g.seq % 2 : Nat) : Int), headL g)] := by
  refine ⟨fun x hx => ?_⟩
  rw [List.mem_singleton] at hx
  subst hx
  have := t.geo.fit
  have := t.geo.room
  have := headL_len g
  exact ⟨by simp only; omega, by simp only; omega, by simp only; omega⟩
theorem fill_head {g : Hd} : fillW [(((g.seq % 2 : Nat) : Int), headL g)] = [(((g.seq % 2 : Nat) : Int), filledL (headL g))] := rfl
theorem fin_cases (hu : Up m s []) (t : Top s h) (d : Pend s h P l) :
    ((finN m h l).2 = 0 ∧ (∃ s', Up (finN m h l).1 s' [] ∧ Top s' (nextH h 0) ∧ Base s' (nextH h 0) ∧ Home s' (nextH h 0) P) ∧ (m.left = -1 → (finN m h l).1.left = -1)) ∨
    ((finN m h l).2 = 11 ∧ Lost m (finN m h l).1 fun s => Recov s P) := by
  have g := t.geo
  have h0 : 0 < s.length := by have := g.fit; omega
  have hf := homeW_fit t d.jou.pages
  have hmem := homeW_mem (h := h) d.jou.pages
  have hother : ∀ j, (∀ p ∈ l, 2 + h.room + p.1.toNat ≠ j) → ∀ x ∈ fillW (homeW h l), x.1.toNat ≠ j := fun j hj x hx => by
    obtain ⟨p, hp, e1, _⟩ := hmem x hx
    rw [e1]; exact hj p hp
  unfold finN
  rcases bat_cases hu hf h0 with ⟨g1, g2, g3⟩ | ⟨g1, g2, g3, g4, b, r, g5, g6⟩
  · rw [if_neg (by omega)]
    generalize (batN m (homeW h l)).1 = m1 at g2 g3 ⊢
    obtain ⟨t1, d1⟩ := d.keep t (s' := doneL s (fillW (homeW h l))) (doneL_length _ _) (doneL_256 t.blocks fun x hx => (hf.fill x hx).2.2) fun j hj => done_stays (hother j hj)
    have hm1 : ∀ i, i < h.pages → (doneL s (fillW (homeW h l))).getD (2 + h.room + i) [] = P.getD i [] := fun i hi => by
      by_cases hex : ∃ p ∈ l, p.1.toNat = i
      · obtain ⟨p, hp, rfl⟩ := hex
        obtain ⟨q0, q1, q2⟩ := d.jou.pages p hp
        have hx : ((2 + (h.room : Int) + p.1, filledL p.2) : Int × List UInt8) ∈ fillW (homeW h l) := List.mem_map.2 ⟨_, List.mem_map.2 ⟨p, hp, rfl⟩, rfl⟩
        have hnd : ((fillW (homeW h l)).map fun x => x.1.toNat).Nodup := by
          unfold fillW homeW
          rw [List.map_map, List.map_map]
          have : (l.map Prod.fst).Nodup := d.jou.nd
          refine (List.pairwise_map.2 ?_)
          have h2 := List.pairwise_map.1 this
          refine h2.imp_of_mem fun {a b} ha hb hab => ?_
          obtain ⟨a0, _, _⟩ := d.jou.pages a ha
          obtain ⟨b0, _, _⟩ := d.jou.pages b hb
          simp only [Function.comp_apply]
          intro e
          exact hab (by omega)
        have e1 := done_is (s := s) hnd _ hx (by have := g.fit; simp only; omega)
        simp only at e1
        rw [show (2 + (h.room : Int) + p.1).toNat = 2 + h.room + p.1.toNat by omega] at e1
        rw [e1, fit256 q2, d.new p hp]
      · exact d1.old i hi fun p hp e => hex ⟨p, hp, e⟩
    generalize doneL s (fillW (homeW h l)) = s1 at g2 t1 d1 hm1
    rw [putN_bat]
    have hf1 := head_fit t1 (g := nextH h 0) rfl
    have h01 : 0 < s1.length := by have := t1.geo.fit; omega
    have hnx : (nextH h 0).seq = h.seq + 1 := rfl
    have hcr : ∀ k, Recov (s1.set ((h.seq + 1) % 2) (mixL (filledL (headL (nextH h 0))) (s1.getD ((h.seq + 1) % 2) []) k)) P := fun k => slot_cases t1 d1 k hm1
    rcases bat_cases g2 hf1 h01 with ⟨k1, k2, k3⟩ | ⟨k1, k2, k3, k4, b, r, k5, k6⟩
    · left
      refine ⟨k1, ⟨_, k2, ?_⟩, fun hl => k3 (g3 hl)⟩
      rw [fill_head]
      have es : doneL s1 [((((nextH h 0).seq % 2 : Nat) : Int), filledL (headL (nextH h 0)))] = s1.set ((h.seq + 1) % 2) (filledL (headL (nextH h 0))) := by
        unfold doneL
        rw [List.foldl_cons, List.foldl_nil, hnx, Int.toNat_natCast]
      rw [es]
      have g' := t1.geo
      have ho : (h.seq + 1) % 2 < s1.length := by have := g'.fit; have := g'.room; omega
      have hne : (h.seq + 1) % 2 ≠ h.seq % 2 := by omega
      have hok := nextH_ok t1 (u := 0) (by omega)
      have hh : (s1.set ((h.seq + 1) % 2) (filledL (headL (nextH h 0)))).getD (h.seq % 2) [] = s1.getD (h.seq % 2) [] := getD_set_ne hne
      have hs : (s1.set ((h.seq + 1) % 2) (filledL (headL (nextH h 0)))).getD ((h.seq + 1) % 2) [] = filledL (headL (nextH h 0)) := getD_set_eq ho
      have e2 : ((nextH h 0).seq + 1) % 2 = h.seq % 2 := by rw [hnx]; omega
      refine ⟨⟨set_256 t1.blocks headA_len, by rw [List.length_set]; exact t1.many, by rw [List.length_set]; exact ⟨g'.room, g'.pages, g'.few, Nat.zero_le _, g'.fit⟩, by rw [hnx]; exact d.more, by rw [hnx]; omega, by rw [hnx, hs]; exact readHd_headL hok _, fun h' hr => ?_⟩, .inr ⟨h, by rw [e2, hh]; exact t1.here⟩, d.len, fun i hi => ?_⟩
      · rw [e2, hh, t1.here] at hr
        simp only [Option.some.injEq] at hr
        subst hr
        rw [hnx]; omega
      · show (s1.set ((h.seq + 1) % 2) _).getD (2 + h.room + i) [] = _
        rw [getD_set_ne (by omega)]
        exact hm1 i hi
    · right
      refine ⟨k1, fun hl => k2 (g3 hl), k3, fun mask torn cut => ?_⟩
      have ha := bat_after k4 k6 k5 t1.blocks hf1 mask torn cut
      rw [fill_head] at ha
      rcases ha.one with e | ⟨k, e⟩
      · rw [e]; exact ⟨h, t1, .inr ⟨l, d1⟩⟩
      · rw [e]
        simp only [hnx, Int.toNat_natCast]
        exact hcr k
  · rw [if_pos (by omega)]
    right
    refine ⟨g1, g2, g3, fun mask torn cut => ?_⟩
    have ha := bat_after g4 g6 g5 t.blocks hf mask torn cut
    obtain ⟨t1, d1⟩ := d.keep t ha.len (ha.all t.blocks hf.fill) fun j hj => ha.stays (hother j hj)
    exact ⟨h, t1, .inr ⟨l, d1⟩⟩
theorem com_cases {N : List (List UInt8)} (hu : Up m s []) (t : Top s h) (h0 : h.used = 0) (hm : Home s h P) (hb : Base s h) (hlow : h.seq + 2 < 1000000) (hl : l.length ≤ 1024) (hp : ∀ p ∈ l, 0 ≤ p.1 ∧ p.1 < h.pages ∧ p.2.length = 256) (hnd : (l.map Prod.fst).Nodup)
    (hroom : blocksN l.length ≤ h.room) (hN : N.length = h.pages) (hnew : ∀ p ∈ l, N.getD p.1.toNat [] = p.2) (hold : ∀ i, i < h.pages → (∀ p ∈ l, p.1.toNat ≠ i) → P.getD i [] = N.getD i []) :
    ((comN m h l).2 = 0 ∧ (∃ s', Up (comN m h l).1 s' [] ∧ Top s' (nextH (nextH h (blocksN l.length)) 0) ∧ Base s' (nextH (nextH h (blocksN l.length)) 0) ∧ Home s' (nextH (nextH h (blocksN l.length)) 0) N) ∧ (m.left = -1 → (comN m h l).1.left = -1)) ∨
    ((comN m h l).2 = 11 ∧ Lost m (comN m h l).1 fun s => Recov s P ∨ Recov s N) := by
  have g := t.geo
  have hg1 := g.fit
  have hg2 := g.room
  have hs0 : 0 < s.length := by omega
  have hpk := packL_len l
  have hf : Fit s.length (jouW l) := ⟨fun x hx => by
    obtain ⟨i, hi, rfl⟩ := List.mem_map.1 hx
    rw [List.mem_range] at hi
    have := getD_256 (packL_256 l fun p hp' => (hp p hp').2.2) (i := i) (by omega)
    exact ⟨by simp only; omega, by simp only; omega, by simp only; omega⟩⟩
  have hmem : ∀ x ∈ fillW (jouW l), ∃ i, i < blocksN l.length ∧ x.1.toNat = 2 + i ∧ x.2 = (packL l).getD i [] := fun x hx => by
    obtain ⟨y, hy, rfl⟩ := List.mem_map.1 hx
    obtain ⟨i, hi, rfl⟩ := List.mem_map.1 hy
    rw [List.mem_range] at hi
    have := getD_256 (packL_256 l fun p hp' => (hp p hp').2.2) (i := i) (by omega)
    exact ⟨i, hi, by simp only [Int.toNat_natCast], fit256 this⟩
  have hother : ∀ j, (j < 2 ∨ 2 + h.room ≤ j) → ∀ x ∈ fillW (jouW l), x.1.toNat ≠ j := fun j hj x hx => by
    obtain ⟨i, hi, e1, _⟩ := hmem x hx
    omega
  have clean : ∀ s', s'.length = s.length → (∀ x ∈ s', x.length = 256) → (∀ j, (j < 2 ∨ 2 + h.room ≤ j) → s'.getD j [] = s.getD j []) → Top s' h ∧ Base s' h ∧ Home s' h P := fun s' e1 e2 e3 => by
    refine ⟨⟨e2, by rw [e1]; exact t.many, by rw [e1]; exact g, t.low, t.pos, by rw [e3 _ (by omega)]; exact t.here, by rw [e3 _ (by omega)]; exact t.there⟩, ?_, hm.1, fun i hi => by rw [e3 _ (by omega)]; exact hm.2 i hi⟩
    unfold Base
    rw [e3 _ (by omega)]; exact hb
  unfold comN
  rcases bat_cases hu hf hs0 with ⟨g1, g2, g3⟩ | ⟨g1, g2, g3, g4, b, r, g5, g6⟩
  · rw [if_neg (by omega)]
    generalize (batN m (jouW l)).1 = m1 at g2 g3 ⊢
    obtain ⟨t1, b1, m1'⟩ := clean (doneL s (fillW (jouW l))) (doneL_length _ _) (doneL_256 t.blocks fun x hx => (hf.fill x hx).2.2) fun j hj => done_stays (hother j hj)
    have j1 : ∀ i, i < blocksN l.length → (doneL s (fillW (jouW l))).getD (2 + i) [] = (packL l).getD i [] := fun i hi => by
      have hnd1 : ((fillW (jouW l)).map fun x => x.1.toNat).Nodup := by
        unfold fillW jouW
        rw [List.map_map, List.map_map]
        refine List.pairwise_map.2 (List.nodup_range.imp fun {a b} hab => ?_)
        simp only [Function.comp_apply, Int.toNat_natCast]
        omega
      have h256 := getD_256 (packL_256 l fun p hp' => (hp p hp').2.2) (i := i) (by omega)
      have hx : (((2 + i : Nat) : Int), filledL ((packL l).getD i [])) ∈ fillW (jouW l) := List.mem_map.2 ⟨_, List.mem_map.2 ⟨i, List.mem_range.2 hi, rfl⟩, rfl⟩
      have e1 := done_is (s := s) hnd1 _ hx (by simp only [Int.toNat_natCast]; omega)
      simp only [Int.toNat_natCast] at e1
      rw [e1, fit256 h256]
    generalize doneL s (fillW (jouW l)) = s1 at g2 t1 b1 m1' j1
    have g' := t1.geo
    have hs1 : s1.length = s1.length := rfl
    have hf1 := head_fit t1 (g := nextH h (blocksN l.length)) rfl
    have h01 : 0 < s1.length := by have := g'.fit; omega
    have hnx : (nextH h (blocksN l.length)).seq = h.seq + 1 := rfl
    have hok := nextH_ok t1 (u := blocksN l.length) hroom
    have ho : (h.seq + 1) % 2 < s1.length := by have := g'.fit; omega
    have hne : (h.seq + 1) % 2 ≠ h.seq % 2 := by omega
    have hA := headA_len (h := nextH h (blocksN l.length))
    have hB := getD_256 t1.blocks ho
    have e2 : ((nextH h (blocksN l.length)).seq + 1) % 2 = h.seq % 2 := by rw [hnx]; omega
    -- once the head is read
    have up1 : ∀ M : List UInt8, M.length = 256 → readHd M = some (nextH h (blocksN l.length)) → Top (s1.set ((h.seq + 1) % 2) M) (nextH h (blocksN l.length)) ∧ Pend (s1.set ((h.seq + 1) % 2) M) (nextH h (blocksN l.length)) N l := fun M hM hr => by
      have hh : (s1.set ((h.seq + 1) % 2) M).getD (h.seq % 2) [] = s1.getD (h.seq % 2) [] := getD_set_ne hne
      have hs : (s1.set ((h.seq + 1) % 2) M).getD ((h.seq + 1) % 2) [] = M := getD_set_eq ho
      have lo : ∀ j, 2 ≤ j → (s1.set ((h.seq + 1) % 2) M).getD j [] = s1.getD j [] := fun j hj => getD_set_ne (by omega)
      refine ⟨⟨set_256 t1.blocks hM, by rw [List.length_set]; exact t1.many, by rw [List.length_set]; exact ⟨g'.room, g'.pages, g'.few, hroom, g'.fit⟩, by rw [hnx]; omega, by rw [hnx]; omega, by rw [hnx, hs]; exact hr, fun h' hr' => ?_⟩, ⟨⟨rfl, fun i hi => by rw [lo _ (by omega)]; exact j1 i hi, hl, hp, hnd⟩, hN, hnew, fun i hi hn => ?_, by rw [hnx]; omega, ?_⟩⟩
      · rw [e2, hh, t1.here] at hr'
        simp only [Option.some.injEq] at hr'
        subst hr'
        rw [hnx]; omega
      · show (s1.set ((h.seq + 1) % 2) M).getD (2 + h.room + i) [] = _
        rw [lo _ (by omega), m1'.2 i hi]
        exact hold i hi hn
      · have hB0 := getD_256 t1.blocks (i := h.seq % 2) (by have := g'.fit; omega)
        refine ⟨s1.getD (h.seq % 2) [], 0, ?_, hB0, .inr ⟨h, t1.here, by rw [hnx]; omega⟩⟩
        rw [e2, hh]
        unfold mixL
        rw [List.take_zero, List.drop_zero, List.nil_append]
    rw [putN_bat]
    rcases bat_cases g2 hf1 h01 with ⟨k1, k2, k3⟩ | ⟨k1, k2, k3, k4, b, r, k5, k6⟩
    · rw [if_neg (by omega)]
      rw [fill_head] at k2
      have es : doneL s1 [((((nextH h (blocksN l.length)).seq % 2 : Nat) : Int), filledL (headL (nextH h (blocksN l.length))))] = s1.set ((h.seq + 1) % 2) (filledL (headL (nextH h (blocksN l.length)))) := by
        unfold doneL
        rw [List.foldl_cons, List.foldl_nil, hnx, Int.toNat_natCast]
      rw [es] at k2
      obtain ⟨t2, d2⟩ := up1 _ hA (readHd_headL hok _)
      rcases fin_cases k2 t2 d2 with ⟨f1, f2, f3⟩ | ⟨f1, f2⟩
      · exact .inl ⟨f1, f2, fun hl' => f3 (k3 (g3 hl'))⟩
      · exact .inr ⟨f1, fun hl' => f2.lim (k3 (g3 hl')), f2.gone, fun mask torn cut => .inr (f2.crash mask torn cut)⟩
    · rw [if_pos (by omega)]
      right
      refine ⟨k1, fun hl' => k2 (g3 hl'), k3, fun mask torn cut => ?_⟩
      have ha := bat_after k4 k6 k5 t1.blocks hf1 mask torn cut
      rw [fill_head] at ha
      rcases ha.one with e | ⟨k, e⟩
      · rw [e]; exact .inl ⟨h, t1, .inl ⟨h0, m1'⟩⟩
      · rw [e]
        simp only [hnx, Int.toNat_natCast]
        have hM := mixL_len (k := k) hA hB
        have hrd := mix_read hok hB b1 k
        generalize mixL (filledL (headL (nextH h (blocksN l.length)))) (s1.getD ((h.seq + 1) % 2) []) k = M at hM hrd ⊢
        by_cases hn : readHd M = some (nextH h (blocksN l.length))
        · obtain ⟨t2, d2⟩ := up1 M hM hn
          exact .inr ⟨_, t2, .inr ⟨l, d2⟩⟩
        · have hh : (s1.set ((h.seq + 1) % 2) M).getD (h.seq % 2) [] = s1.getD (h.seq % 2) [] := getD_set_ne hne
          have hs : (s1.set ((h.seq + 1) % 2) M).getD ((h.seq + 1) % 2) [] = M := getD_set_eq ho
          refine .inl ⟨h, ⟨set_256 t1.blocks hM, by rw [List.length_set]; exact t1.many, by rw [List.length_set]; exact g', t1.low, t1.pos, by rw [hh]; exact t1.here, fun h' hr => ?_⟩, .inl ⟨h0, m1'.1, fun i hi => by rw [getD_set_ne (by omega)]; exact m1'.2 i hi⟩⟩
          rw [hs] at hr
          rcases hrd with r | r | r
          · rw [r] at hr; cases hr
          · exact absurd r hn
          · rw [r] at hr; exact t1.there h' hr
  · rw [if_pos (by omega)]
    right
    refine ⟨g1, g2, g3, fun mask torn cut => ?_⟩
    have ha := bat_after g4 g6 g5 t.blocks hf mask torn cut
    obtain ⟨t1, _, m1⟩ := clean _ ha.len (ha.all t.blocks hf.fill) fun j hj => ha.stays (hother j hj)
    exact .inl ⟨h, t1, .inl ⟨h0, m1⟩⟩
end
end Go.Proofs.YtmchjbgobiagiaaGreat

namespace Go.Proofs.YtmchjbgobiagiaaGreat
set_option linter.unusedSimpArgs false
set_option linter.unusedVariables false
set_option maxRecDepth 100000
open Go Go.Ann Go.RowKit Go.WideShapes Go.Shelf
def headW (h : Hd) (e : Int) (h' : Hd) : Hd := if e = 0 then h' else h
section
variable {W0 w : World} {F : Nat → Prop} {L : List Res} {I : List Inv} {b mb g : Nat} {vb vl v : Value} {s : Sto} {l : List Pge}
theorem step_ok (u : Nat) (h : St W0 w F (StoL b mb g vb vl s ++ L) I) (ok : s.disk.ok) (hh : (nextH s.hd u).ok) (hless : s.disk.late.length < 1000000) (hu : u ≤ 1000000) :
    Ret Tryz.prog 82 [.pointer (some ⟨b, 0, none⟩), .int .i64 u] w fun r w' => r = .int .i64 (putN s.disk (nextH s.hd u)).2 ∧ ∃ vl', St W0 w' F (StoL b mb g vb vl' { s with disk := (putN s.disk (nextH s.hd u)).1, hd := headW s.hd (putN s.disk (nextH s.hd u)).2 (nextH s.hd u) } ++ L) I := by
  refine ent82 _ _ _ _ ?_
  have r1 := h.rules 0 rfl
  simp (disch := first | omega | exact okFill_t rfl | exact okSize_t rfl | exact fun h => h | (simp only [World.size_alloc, World.size_drew, World.size_setCell, size_fill, bytesW]; omega)) only [go_sem, c82, c82S0, c82S1, r1]
  have hseq := hh.seq
  have hsq : (nextH s.hd u).seq = s.hd.seq + 1 := rfl
  have ew : IntKind.u64.wrap ((s.hd.seq : Int) + 1) = ((s.hd.seq + 1 : Nat) : Int) := by rw [wrap_u64_id _ (by omega) (by omega)]; omega
  rw [ew]
  have s1 : St W0 (w.alloc (.cells #[.int .u64 ((s.hd.seq + 1 : Nat) : Int), .int .i64 u, .int .i64 s.hd.room, .int .i64 s.hd.pages] 96)) F (.blk w.heap.size (nextH s.hd u).enc.toArray 96 :: (StoL b mb g vb vl s ++ L)) I := h.box (nextH s.hd u).enc.toArray 96
  generalize w.heap.size = y at s1 ⊢
  generalize w.alloc (.cells #[.int .u64 ((s.hd.seq + 1 : Nat) : Int), .int .i64 u, .int .i64 s.hd.room, .int .i64 s.hd.pages] 96) = w1 at s1 ⊢
  refine c82draw0 (Same (fun k => k = b) _) (Same.refl _ _) ?_
  have s2 := s1.drew
  have r2 := s2.rules 1 rfl
  have q2 := s2.rules 0 rfl
  have l2 := s2.low 0 rfl
  generalize w1.drew = w2 at s2 r2 q2 l2 ⊢
  simp (disch := first | omega | exact okFill_t rfl | exact okSize_t rfl | exact fun h => h | (simp only [World.size_alloc, World.size_drew, World.size_setCell, size_fill, bytesW]; omega)) only [go_sem, c82, c82S0, c82S1, c82D0, r2, q2, Hd.enc]
  have s3 : St W0 w2 F (StoL b mb g vb vl s ++ ([.blk y (nextH s.hd u).enc.toArray 96] ++ L)) I := St.front (A := [_]) (D := StoL b mb g vb vl s) (L := L) s2
  refine ⟨Same.refl _ _, Ret.mono (put_ok (nextH s.hd u) hh (sto_disk s3) ok hless) ?_⟩
  rintro _ w4 ⟨rfl, vl', s4⟩
  have s5 := disk_sto s4
  have r5 := s5.rules 0 rfl
  have q5 := (St.front (A := StoL b mb g vb vl' _) (D := [.blk y (nextH s.hd u).enc.toArray 96]) (L := L) s5).rules 0 rfl
  generalize hpu : putN s.disk (nextH s.hd u) = pu at s4 s5 r5 ⊢
  obtain ⟨m', e⟩ := pu
  by_cases he : e = 0
  · subst he
    simp (disch := first | omega | exact okFill_t rfl | exact okSize_t rfl | exact fun h => h | (simp only [World.size_alloc, World.size_drew, World.size_setCell, size_fill, bytesW]; omega)) only [go_sem, c82, c82S0, c82S1, r5, q5, Hd.enc]
    have hB := s5.blk 0 rfl
    refine ⟨by kernel_rfl, (nextH s.hd u).one, fun i hi => ?_, ?_⟩
    · have hi' : i < 4 := hi
      rw [Addr.add_lit, hB.cell, hB.frozen]
      exact ⟨⟨_, Array.getElem?_eq_getElem (show 1 + i < 7 by omega)⟩, rfl⟩
    · have s6 := (((s5.set 0 rfl 1 (.int .u64 (nextH s.hd u).seq)).set 0 rfl 2 (.int .i64 (nextH s.hd u).used)).set 0 rfl 3 (.int .i64 (nextH s.hd u).room)).set 0 rfl 4 (.int .i64 (nextH s.hd u).pages)
      simp (disch := first | omega | exact okFill_t rfl | exact okSize_t rfl | exact fun h => h | (simp only [World.size_alloc, World.size_drew, World.size_setCell, size_fill, bytesW]; omega)) only [go_sem, c82, c82S0, c82S1]
      refine ⟨vl', ?_⟩
      exact s6.sub (List.Sublist.append_left (List.sublist_cons_self _ _) _)
  · simp (disch := first | omega | exact okFill_t rfl | exact okSize_t rfl | exact fun h => h | (simp only [World.size_alloc, World.size_drew, World.size_setCell, size_fill, bytesW]; omega)) only [go_sem, c82, c82S0, c82S1, he]
    refine ⟨vl', ?_⟩
    unfold headW
    rw [if_neg he]
    exact s5.sub (List.Sublist.append_left (List.sublist_cons_self _ _) _)
theorem writeN_late (m : Dk) (i : Int) (d : List UInt8) : (writeN m i d).1.late.length ≤ m.late.length + 1 := by
  have hl := useN_late m
  unfold writeN
  split
  · exact Nat.le_succ _
  · split
    · exact Nat.le_succ _
    · split
      · simp only [List.length_append, List.length_singleton, hl.1]; omega
      · rw [hl.1]; omega
theorem home_ok (h : St W0 w F (StoL b mb g vb vl s ++ L) (.rd 2 pendV v l :: I)) (ok : s.disk.ok) (hh : (nextH s.hd 0).ok) (hp : ∀ p ∈ l, 0 ≤ p.1 ∧ p.1 < s.hd.pages ∧ p.2.length = 256) (hl : l.length ≤ 1024) (hg : s.hd.room ≤ 2048 ∧ s.hd.pages ≤ 1024) (hless : s.disk.late.length < 900000) :
    Ret Tryz.prog 55 [.pointer (some ⟨b, 0, none⟩), v] w fun r w' => r = .int .i64 (finN s.disk s.hd l).2 ∧ ∃ vl', St W0 w' F (StoL b mb g vb vl' { s with disk := (finN s.disk s.hd l).1, hd := headW s.hd (finN s.disk s.hd l).2 (nextH s.hd 0) } ++ L) (.rd 2 pendV v l :: I) := by
  obtain ⟨a, c, rfl, hac⟩ := (h.rd 0 rfl).form
  obtain ⟨W, hW⟩ : ∃ W, W = homeW s.hd l := ⟨_, rfl⟩
  have hWl : W.length = l.length := by rw [hW]; unfold homeW; rw [List.length_map]
  refine ent55 _ _ _ _ ?_
  simp (disch := first | omega | exact okFill_t rfl | exact okSize_t rfl | exact fun h => h | (simp only [World.size_alloc, World.size_drew, World.size_setCell, size_fill, bytesW]; omega)) only [go_sem, c55, c55S0, c55S1, c55S2, c55S3, c55S4, c55S5, c55S6, c55S7, c55S8]
  refine W_loopU (fun q : Nat × Value × Dk => [(11, .int .i64 q.1)]) (fun q w' => q.1 ≤ l.length ∧ wrsN s.disk W = wrsN q.2.2 (W.drop q.1) ∧ q.2.2.ok ∧ q.2.2.late.length ≤ s.disk.late.length + q.1 ∧ St W0 w' F (StoL b mb g vb q.2.1 { s with disk := q.2.2 } ++ L) (.rd 2 pendV (.slice a l.length c) l :: I)) (fun q => l.length - q.1) (0, vl, s.disk) rfl ⟨Nat.zero_le _, rfl, ok, Nat.le_refl _, h⟩ ?_
  rintro ⟨k, vl1, m1⟩ w1 ⟨hk, hw, ok1, hl1, s1⟩
  simp only at hk hw ok1 hl1 s1
  clear h
  have hR := s1.rd 0 rfl
  by_cases hlt : k < l.length
  · have hlt' : (k : Int) < l.length := by omega
    obtain ⟨q, rfl⟩ := hR.ptr (by omega)
    have eL := hR.at pendV_len hlt
    obtain ⟨p0, p1, p2⟩ := hp _ (List.getElem_mem hlt)
    have hWk : W.drop k = (2 + (s.hd.room : Int) + l[k].1, l[k].2) :: W.drop (k + 1) := by
      rw [List.drop_eq_getElem_cons (by omega)]
      congr 1
      simp [hW, homeW]
    rw [hWk, wrsN] at hw
    simp (disch := first | omega | exact okFill_t rfl | exact okSize_t rfl | exact fun h => h | (simp only [World.size_alloc, World.size_drew, World.size_setCell, size_fill, bytesW]; omega)) only [go_sem, c55, c55S0, c55S1, c55S2, c55S3, c55S4, c55L0, c55S5, c55S6, c55S7, c55S8, c55L0, hlt', eL, pendV]
    have s2 := s1.box #[.int .i64 l[k].1, .string (ofL l[k].2)] 116
    generalize w1.heap.size = y at s2 ⊢
    generalize w1.alloc (.cells #[.int .i64 l[k].1, .string (ofL l[k].2)] 116) = w2 at s2 ⊢
    refine ⟨by omega, c55draw0 ?_⟩
    have s3 := s2.drew
    have r3 := s3.rules 1 rfl
    have q3 := s3.rules 0 rfl
    generalize w2.drew = w3 at s3 r3 q3 ⊢
    have c1 : ¬ (s.hd.pages : Int) ≤ l[k].1 := by omega
    simp (disch := first | omega | exact okFill_t rfl | exact okSize_t rfl | exact fun h => h | (simp only [World.size_alloc, World.size_drew, World.size_setCell, size_fill, bytesW]; omega)) only [go_sem, c55, c55S0, c55S1, c55S2, c55S3, c55S4, c55L0, c55S5, c55S6, c55S7, c55S8, c55D0, r3, q3, c1]
    refine c55draw1 (Same (fun k => k = b ∨ k = y) _) (Same.refl _ _) ?_
    have s4 := s3.drew
    have r4 := s4.rules 1 rfl
    have q4 := s4.rules 0 rfl
    have l4 := s4.low 0 rfl
    have l4b := s4.low 1 rfl
    generalize w3.drew = w4 at s4 r4 q4 l4 l4b ⊢
    simp (disch := first | omega | exact okFill_t rfl | exact okSize_t rfl | exact fun h => h | (simp only [World.size_alloc, World.size_drew, World.size_setCell, size_fill, bytesW]; omega)) only [go_sem, c55, c55S0, c55S1, c55S2, c55S3, c55S4, c55L0, c55S5, c55S6, c55S7, c55S8, c55D1, r4, q4]
    have s4' : St W0 w4 F (StoL b mb g vb vl1 { s with disk := m1 } ++ ([.blk y #[.int .i64 l[k].1, .string (ofL l[k].2)] 116] ++ L)) (.rd 2 pendV (.slice (some q) l.length c) l :: I) := St.front (A := [_]) (D := StoL b mb g vb vl1 { s with disk := m1 }) (L := L) s4
    refine ⟨by constructor <;> omega, by constructor <;> omega, Same.refl _ _, Ret.mono (write_ok (2 + (s.hd.room : Int) + l[k].1) l[k].2 (sto_disk s4') ok1 (show m1.late.length < 1000000 by omega)) ?_⟩
    rintro _ w5 ⟨rfl, vl5, s5⟩
    have hwl := writeN_late m1 (2 + (s.hd.room : Int) + l[k].1) l[k].2
    have hwok := writeN_ok ok1 (by omega) (2 + (s.hd.room : Int) + l[k].1) l[k].2
    have s6 := disk_sto s5
    have sm : Same (fun k => k = b ∨ k = y) w4 w5 := fun j hj => by
      rcases hj with rfl | rfl
      · exact (s6.blk 0 rfl).trans (s4'.blk 0 rfl).symm
      · exact ((St.front (A := StoL b mb g vb vl5 _) (D := [.blk j #[.int .i64 l[k].1, .string (ofL l[k].2)] 116]) (L := L) s6).blk 0 rfl).trans (s4.blk 0 rfl).symm
    have s7 := s6.sub (L' := StoL b mb g vb vl5 { s with disk := (writeN m1 (2 + (s.hd.room : Int) + l[k].1) l[k].2).1 } ++ L) (List.Sublist.append_left (List.sublist_cons_self _ _) _)
    generalize writeN m1 (2 + (s.hd.room : Int) + l[k].1) l[k].2 = we at hw s7 hwl hwok ⊢
    obtain ⟨m2, e⟩ := we
    simp only at hw s7 hwl hwok
    by_cases he : e = 0
    · subst he
      rw [if_neg (by simp)] at hw
      simp (disch := first | omega | exact okFill_t rfl | exact okSize_t rfl | exact fun h => h | (simp only [World.size_alloc, World.size_drew, World.size_setCell, size_fill, bytesW]; omega)) only [go_sem, c55, c55S0, c55S1, c55S2, c55S3, c55S4, c55L0, c55S5, c55S6, c55S7, c55S8]
      exact ⟨sm, by constructor <;> omega, (k + 1, vl5, m2), rfl, ⟨by omega, hw, hwok, by simp only; omega, s7⟩, by simp only; omega⟩
    · rw [if_pos (by simpa using he)] at hw
      have hbat : batN s.disk W = (m2, e) := by
        unfold batN
        rw [hw, if_pos (by simpa using he)]
      have hfin : finN s.disk s.hd l = (m2, e) := by
        unfold finN
        rw [← hW, hbat, if_pos (by simpa using he)]
      rw [hfin]
      simp (disch := first | omega | exact okFill_t rfl | exact okSize_t rfl | exact fun h => h | (simp only [World.size_alloc, World.size_drew, World.size_setCell, size_fill, bytesW]; omega)) only [go_sem, c55, c55S0, c55S1, c55S2, c55S3, c55S4, c55L0, c55S5, c55S6, c55S7, c55S8, he]
      refine ⟨sm, vl5, ?_⟩
      unfold headW
      rw [if_neg he]
      exact s7
  · have hlt' : ¬ (k : Int) < l.length := by omega
    obtain rfl : k = l.length := by omega
    rw [List.drop_of_length_le (by omega), wrsN] at hw
    have r1 := s1.rules 0 rfl
    simp (disch := first | omega | exact okFill_t rfl | exact okSize_t rfl | exact fun h => h | (simp only [World.size_alloc, World.size_drew, World.size_setCell, size_fill, bytesW]; omega)) only [go_sem, c55, c55S0, c55S1, c55S2, c55S3, c55S4, c55L0, c55S5, c55S6, c55S7, c55S8, c55L0, hlt', r1]
    refine Ret.mono (flush_ok (sto_disk s1) ok1) ?_
    rintro _ w2 ⟨rfl, vl2, s2⟩
    have ok2 := flushN_ok ok1
    have s3 := disk_sto s2
    have hfin : finN s.disk s.hd l = if (flushN m1).2 ≠ 0 then flushN m1 else putN (flushN m1).1 (nextH s.hd 0) := by
      have hbat : batN s.disk W = flushN m1 := by
        unfold batN
        rw [hw, if_neg (by simp)]
      unfold finN
      rw [← hW, hbat]
    rw [hfin]
    by_cases he : (flushN m1).2 = 0
    · rw [if_neg (by omega)]
      simp (disch := first | omega | exact okFill_t rfl | exact okSize_t rfl | exact fun h => h | (simp only [World.size_alloc, World.size_drew, World.size_setCell, size_fill, bytesW]; omega)) only [go_sem, c55, c55S0, c55S1, c55S2, c55S3, c55S4, c55L0, c55S5, c55S6, c55S7, c55S8, he]
      have hlate : (flushN m1).1.late.length < 1000000 := by
        have : (flushN m1).1.late.length ≤ m1.late.length := by
          unfold flushN
          have := useN_late m1
          split
          · exact Nat.le_refl _
          · split
            · rw [this.1]; exact Nat.le_refl _
            · simp
        omega
      refine Ret.mono (step_ok 0 s3 ok2 hh hlate (by decide)) ?_
      rintro _ w4 ⟨rfl, vl4, s4⟩
      simp (disch := first | omega | exact okFill_t rfl | exact okSize_t rfl | exact fun h => h | (simp only [World.size_alloc, World.size_drew, World.size_setCell, size_fill, bytesW]; omega)) only [go_sem, c55, c55S0, c55S1, c55S2, c55S3, c55S4, c55L0, c55S5, c55S6, c55S7, c55S8]
      exact ⟨vl4, s4⟩
    · rw [if_pos he]
      simp (disch := first | omega | exact okFill_t rfl | exact okSize_t rfl | exact fun h => h | (simp only [World.size_alloc, World.size_drew, World.size_setCell, size_fill, bytesW]; omega)) only [go_sem, c55, c55S0, c55S1, c55S2, c55S3, c55S4, c55L0, c55S5, c55S6, c55S7, c55S8, he]
      refine ⟨vl2, ?_⟩
      unfold headW
      rw [if_neg he]
      exact s3
end
end Go.Proofs.YtmchjbgobiagiaaGreat

namespace Go.Proofs.YtmchjbgobiagiaaGreat
set_option linter.unusedSimpArgs false
set_option linter.unusedVariables false
set_option maxRecDepth 100000
open Go Go.Ann Go.RowKit Go.WideShapes Go.Shelf
theorem flushN_late (m : Dk) : (flushN m).1.late.length ≤ m.late.length := by
  unfold flushN
  have := useN_late m
  split
  · exact Nat.le_refl _
  · split
    · rw [this.1]; exact Nat.le_refl _
    · simp
theorem putN_late (m : Dk) (h : Hd) : (putN m h).1.late.length ≤ m.late.length + 1 := by
  have h1 := writeN_late m ((h.seq % 2 : Nat) : Int) (headL h)
  have h2 := flushN_late (writeN m ((h.seq % 2 : Nat) : Int) (headL h)).1
  unfold putN
  split
  · exact h1
  · omega
section
variable {W0 w : World} {F : Nat → Prop} {L : List Res} {I : List Inv} {b mb g : Nat} {vb vl v : Value} {s : Sto} {l : List Pge}
theorem putN_ok {m : Dk} {h : Hd} (ok : m.ok) (hless : m.late.length < 1000000) : (putN m h).1.ok := by
  have h1 := writeN_ok ok hless ((h.seq % 2 : Nat) : Int) (headL h)
  unfold putN
  split
  · exact h1
  · exact flushN_ok h1
theorem commit_ok (h : St W0 w F (StoL b mb g vb vl s ++ L) (.rd 2 pendV v l :: I)) (ok : s.disk.ok) (hseq : s.hd.seq + 2 < 1000000) (hp : ∀ p ∈ l, 0 ≤ p.1 ∧ p.1 < s.hd.pages ∧ p.2.length = 256) (hl : l.length ≤ 1024) (hg : s.hd.room ≤ 2048 ∧ s.hd.pages ≤ 1024) (hroom : blocksN l.length ≤ s.hd.room) (hless : s.disk.late.length < 800000) :
    Ret Tryz.prog 67 [.pointer (some ⟨b, 0, none⟩), v] w fun r w' => r = .int .i64 (comN s.disk s.hd l).2 ∧ ∃ vl' hd', ((comN s.disk s.hd l).2 = 0 → hd' = nextH (nextH s.hd (blocksN l.length)) 0) ∧ St W0 w' F (StoL b mb g vb vl' { s with disk := (comN s.disk s.hd l).1, hd := hd' } ++ L) I := by
  obtain ⟨W, hW⟩ : ∃ W, W = jouW l := ⟨_, rfl⟩
  have hpl := packL_len l
  have hWl : W.length = (packL l).length := by rw [hW]; unfold jouW; rw [List.length_map, List.length_range, hpl]
  have hbk : blocksN l.length ≤ 2048 := by omega
  have p256 := packL_256 l fun p hp' => (hp p hp').2.2
  refine ent67 _ _ _ _ ?_
  simp (disch := first | omega | exact okFill_t rfl | exact okSize_t rfl | exact fun h => h | (simp only [World.size_alloc, World.size_drew, World.size_setCell, size_fill, bytesW]; omega)) only [go_sem, c67, c67S0, c67S1, c67S2, c67S3, c67S4, c67S5, c67S6, c67S7, c67S8, c67S9, c67S10]
  refine Ret.mono (pack_ok h hl fun p hp' => by have := hp p hp'; exact ⟨this.1, by omega, this.2.2⟩) ?_
  rintro _ w1 ⟨vo, rfl, s1⟩
  have s1 : St W0 w1 F (StoL b mb g vb vl s ++ (.row vo 9 1 (packL l).length ((packL l).flatMap strE) :: L)) (.rd 2 pendV v l :: I) := St.front (A := [_]) (D := StoL b mb g vb vl s) (L := L) s1
  clear h
  obtain ⟨a, c, rfl, hac⟩ := own_slice (s1.row 5 rfl)
  simp (disch := first | omega | exact okFill_t rfl | exact okSize_t rfl | exact fun h => h | (simp only [World.size_alloc, World.size_drew, World.size_setCell, size_fill, bytesW]; omega)) only [go_sem, c67, c67S0, c67S1, c67S2, c67S3, c67S4, c67S5, c67S6, c67S7, c67S8, c67S9, c67S10]
  refine W_loopU (fun q : Nat × Value × Dk => [(22, .int .i64 q.1)]) (fun q w' => q.1 ≤ (packL l).length ∧ wrsN s.disk W = wrsN q.2.2 (W.drop q.1) ∧ q.2.2.ok ∧ q.2.2.late.length ≤ s.disk.late.length + q.1 ∧ St W0 w' F (StoL b mb g vb q.2.1 { s with disk := q.2.2 } ++ (.row (.slice a (packL l).length c) 9 1 (packL l).length ((packL l).flatMap strE) :: L)) (.rd 2 pendV v l :: I)) (fun q => (packL l).length - q.1) (0, vl, s.disk) rfl ⟨Nat.zero_le _, rfl, ok, Nat.le_refl _, s1⟩ ?_
  rintro ⟨k, vl1, m1⟩ w2 ⟨hk, hw, ok1, hl1, s2⟩
  simp only at hk hw ok1 hl1 s2
  clear s1
  have r2 := s2.rules 0 rfl
  by_cases hlt : k < (packL l).length
  · have hlt' : (k : Int) < (packL l).length := by omega
    have hR : RdS w2 1 strE (.slice a (packL l).length c) (packL l) := RdS.of_own' (s2.row 5 rfl) _ rfl rfl
    obtain ⟨q, rfl⟩ := hR.ptr (by omega)
    have eL := RdS.at1 (e1 := fun s => .string (ofL s)) hR hlt
    have hWk : W.drop k = (((2 + k : Nat) : Int), (packL l)[k]) :: W.drop (k + 1) := by
      rw [List.drop_eq_getElem_cons (by omega)]
      congr 1
      simp only [hW, jouW, List.getElem_map, List.getElem_range]
      rw [List.getD_eq_getElem?_getD, List.getElem?_eq_getElem hlt]; rfl
    rw [hWk, wrsN] at hw
    simp (disch := first | omega | exact okFill_t rfl | exact okSize_t rfl | exact fun h => h | (simp only [World.size_alloc, World.size_drew, World.size_setCell, size_fill, bytesW]; omega)) only [go_sem, c67, c67S0, c67S1, c67S2, c67L0, c67S3, c67S4, c67S5, c67S6, c67S7, c67S8, c67S9, c67S10, c67L0, hlt', eL, r2]
    have e2k : ((2 + k : Nat) : Int) = 2 + (k : Int) := by omega
    rw [e2k] at hw
    refine ⟨by omega, by constructor <;> omega, Ret.mono (write_ok (2 + (k : Int)) (packL l)[k] (sto_disk s2) ok1 (show m1.late.length < 1000000 by omega)) ?_⟩
    rintro _ w5 ⟨rfl, vl5, s5⟩
    have hwl := writeN_late m1 (2 + (k : Int)) (packL l)[k]
    have hwok := writeN_ok ok1 (by omega) (2 + (k : Int)) (packL l)[k]
    have s6 := disk_sto s5
    generalize writeN m1 (2 + (k : Int)) (packL l)[k] = we at hw s6 hwl hwok ⊢
    obtain ⟨m2, e⟩ := we
    simp only at hw s6 hwl hwok
    by_cases he : e = 0
    · subst he
      rw [if_neg (by simp)] at hw
      simp (disch := first | omega | exact okFill_t rfl | exact okSize_t rfl | exact fun h => h | (simp only [World.size_alloc, World.size_drew, World.size_setCell, size_fill, bytesW]; omega)) only [go_sem, c67, c67S0, c67S1, c67S2, c67L0, c67S3, c67S4, c67S5, c67S6, c67S7, c67S8, c67S9, c67S10]
      exact ⟨by constructor <;> omega, (k + 1, vl5, m2), rfl, ⟨by omega, hw, hwok, by simp only; omega, s6⟩, by simp only; omega⟩
    · rw [if_pos (by simpa using he)] at hw
      have hbat : batN s.disk W = (m2, e) := by
        unfold batN
        rw [hw, if_pos (by simpa using he)]
      have hcom : comN s.disk s.hd l = (m2, e) := by
        unfold comN
        rw [← hW, hbat, if_pos (by simpa using he)]
      rw [hcom]
      simp (disch := first | omega | exact okFill_t rfl | exact okSize_t rfl | exact fun h => h | (simp only [World.size_alloc, World.size_drew, World.size_setCell, size_fill, bytesW]; omega)) only [go_sem, c67, c67S0, c67S1, c67S2, c67L0, c67S3, c67S4, c67S5, c67S6, c67S7, c67S8, c67S9, c67S10, he]
      exact ⟨vl5, s.hd, (s6.sub (List.Sublist.append_left (List.sublist_cons_self _ _) _)).inv_sub fun a ha => List.mem_cons_of_mem _ ha⟩
  · have hlt' : ¬ (k : Int) < (packL l).length := by omega
    obtain rfl : k = (packL l).length := by omega
    rw [List.drop_of_length_le (by omega), wrsN] at hw
    have hbat : batN s.disk W = flushN m1 := by
      unfold batN
      rw [hw, if_neg (by simp)]
    simp (disch := first | omega | exact okFill_t rfl | exact okSize_t rfl | exact fun h => h | (simp only [World.size_alloc, World.size_drew, World.size_setCell, size_fill, bytesW]; omega)) only [go_sem, c67, c67S0, c67S1, c67S2, c67L0, c67S3, c67S4, c67S5, c67S6, c67S7, c67S8, c67S9, c67S10, c67L0, hlt', r2]
    refine Ret.mono (flush_ok (sto_disk s2) ok1) ?_
    rintro _ w3 ⟨rfl, vl3, s3⟩
    have ok3 := flushN_ok ok1
    have s4 := disk_sto s3
    have hfl := flushN_late m1
    by_cases he : (flushN m1).2 = 0
    case neg =>
      have hcom : comN s.disk s.hd l = flushN m1 := by
        unfold comN
        rw [← hW, hbat, if_pos he]
      rw [hcom]
      simp (disch := first | omega | exact okFill_t rfl | exact okSize_t rfl | exact fun h => h | (simp only [World.size_alloc, World.size_drew, World.size_setCell, size_fill, bytesW]; omega)) only [go_sem, c67, c67S0, c67S1, c67S2, c67L0, c67S3, c67S4, c67S5, c67S6, c67S7, c67S8, c67S9, c67S10, he]
      exact ⟨vl3, s.hd, (s4.sub (List.Sublist.append_left (List.sublist_cons_self _ _) _)).inv_sub fun a ha => List.mem_cons_of_mem _ ha⟩
    have hcom : comN s.disk s.hd l = if (putN (flushN m1).1 (nextH s.hd (blocksN l.length))).2 ≠ 0 then putN (flushN m1).1 (nextH s.hd (blocksN l.length)) else finN (putN (flushN m1).1 (nextH s.hd (blocksN l.length))).1 (nextH s.hd (blocksN l.length)) l := by
      unfold comN
      rw [← hW, hbat, if_neg (by omega)]
    rw [hcom]
    generalize flushN m1 = fm at s4 ok3 hfl he hcom ⊢
    obtain ⟨m3, e3⟩ := fm
    simp only at he s4 ok3 hfl
    subst he
    simp (disch := first | omega | exact okFill_t rfl | exact okSize_t rfl | exact fun h => h | (simp only [World.size_alloc, World.size_drew, World.size_setCell, size_fill, bytesW]; omega)) only [go_sem, c67, c67S0, c67S1, c67S2, c67L0, c67S3, c67S4, c67S5, c67S6, c67S7, c67S8, c67S9, c67S10]
    rw [hpl]
    have hh1 : (nextH s.hd (blocksN l.length)).ok := ⟨by show s.hd.seq + 1 < _; omega, by show blocksN l.length < _; omega, by show s.hd.room < _; omega, by show s.hd.pages < _; omega⟩
    have hh2 : (nextH (nextH s.hd (blocksN l.length)) 0).ok := ⟨by show s.hd.seq + 1 + 1 < _; omega, by show 0 < _; omega, by show s.hd.room < _; omega, by show s.hd.pages < _; omega⟩
    refine Ret.mono (step_ok (blocksN l.length) s4 ok3 hh1 (show m3.late.length < 1000000 by omega) (by omega)) ?_
    rintro _ w5 ⟨rfl, vl5, s5⟩
    have hpla := putN_late m3 (nextH s.hd (blocksN l.length))
    have hpok := putN_ok (h := nextH s.hd (blocksN l.length)) ok3 (by omega)
    simp only at s5
    generalize putN m3 (nextH s.hd (blocksN l.length)) = pm at s5 hpla hpok ⊢
    obtain ⟨m4, e4⟩ := pm
    simp only at hpla hpok s5
    by_cases he4 : e4 = 0
    case neg =>
      rw [if_pos (by simpa using he4)]
      simp (disch := first | omega | exact okFill_t rfl | exact okSize_t rfl | exact fun h => h | (simp only [World.size_alloc, World.size_drew, World.size_setCell, size_fill, bytesW]; omega)) only [go_sem, c67, c67S0, c67S1, c67S2, c67L0, c67S3, c67S4, c67S5, c67S6, c67S7, c67S8, c67S9, c67S10, he4]
      refine ⟨vl5, _, (s5.sub (List.Sublist.append_left (List.sublist_cons_self _ _) _)).inv_sub fun a ha => List.mem_cons_of_mem _ ha⟩
    subst he4
    rw [if_neg (by simp)]
    rw [show headW s.hd 0 (nextH s.hd (blocksN l.length)) = nextH s.hd (blocksN l.length) from rfl] at s5
    simp (disch := first | omega | exact okFill_t rfl | exact okSize_t rfl | exact fun h => h | (simp only [World.size_alloc, World.size_drew, World.size_setCell, size_fill, bytesW]; omega)) only [go_sem, c67, c67S0, c67S1, c67S2, c67L0, c67S3, c67S4, c67S5, c67S6, c67S7, c67S8, c67S9, c67S10]
    refine Ret.mono (home_ok s5 hpok hh2 hp hl hg (show m4.late.length < 900000 by omega)) ?_
    rintro _ w6 ⟨rfl, vl6, s6⟩
    simp (disch := first | omega | exact okFill_t rfl | exact okSize_t rfl | exact fun h => h | (simp only [World.size_alloc, World.size_drew, World.size_setCell, size_fill, bytesW]; omega)) only [go_sem, c67, c67S0, c67S1, c67S2, c67L0, c67S3, c67S4, c67S5, c67S6, c67S7, c67S8, c67S9, c67S10]
    exact ⟨vl6, _, fun h => by unfold headW; rw [if_pos h], (s6.sub (List.Sublist.append_left (List.sublist_cons_self _ _) _)).inv_sub fun a ha => List.mem_cons_of_mem _ ha⟩
end
end Go.Proofs.YtmchjbgobiagiaaGreat

namespace Go.Proofs.YtmchjbgobiagiaaGreat
set_option linter.unusedSimpArgs false
set_option linter.unusedVariables false
set_option maxRecDepth 100000
open Go Go.Ann Go.RowKit Go.WideShapes Go.Shelf
def Gr (w w' : World) : Prop := ∃ q os, w' = Go.Sort.grow (w.drewN q) os
theorem Gr.refl (w : World) : Gr w w := ⟨0, #[], by rw [Go.Sort.grow_empty]; rfl⟩
theorem Gr.alloc {w w' : World} (h : Gr w w') (o : Obj) : Gr w (w'.alloc o) := by
  obtain ⟨q, os, rfl⟩ := h
  exact ⟨q, os ++ #[o], by rw [Go.Sort.alloc_eq_grow, Go.Sort.grow_grow]⟩
theorem Gr.drew {w w' : World} (h : Gr w w') : Gr w w'.drew := by
  obtain ⟨q, os, rfl⟩ := h
  exact ⟨q + 1, os, rfl⟩
theorem Gr.trans {a b c : World} (h : Gr a b) (k : Gr b c) : Gr a c := by
  obtain ⟨q, os, rfl⟩ := h
  obtain ⟨r, ps, rfl⟩ := k
  exact ⟨q + r, os ++ ps, by rw [← Go.Sort.grow_grow]; show Go.Sort.grow (Go.Sort.grow ((a.drewN q).drewN r) os) ps = _; rw [World.drewN_drewN]⟩
theorem Gr.below {w w' : World} (h : Gr w w') : Below w.heap.size w w' := by
  obtain ⟨q, os, rfl⟩ := h
  refine ⟨rfl, rfl, rfl, ?_, fun k hk => ?_⟩
  · show w.heap.size ≤ (w.heap ++ os).size
    rw [Array.size_append]; omega
  · show (w.heap ++ os)[k]? = _
    rw [Array.getElem?_append_left hk]
def cmpI (a b : Int) : Int := if a < b then -1 else if b < a then 1 else 0
def pageI (a b : Pge) : Int := cmpI a.1 b.1
theorem isNaN_ok (a : Int) (w : World) : Ret Tryz.prog 91 [.int .i64 a] w fun u w' => u = .bool false ∧ w' = w := by
  refine ent91 _ _ _ ?_
  simp (disch := first | omega | exact okFill_t rfl | exact okSize_t rfl | exact fun h => h | (simp only [World.size_alloc, World.size_drew, World.size_setCell, size_fill, bytesW]; omega)) only [go_sem, c91]
theorem compare_ok (a b : Int) (w : World) : Ret Tryz.prog 65 [.int .i64 a, .int .i64 b] w fun u w' => u = .int .i64 (cmpI a b) ∧ w' = w := by
  refine ent65 _ _ _ _ ?_
  simp (disch := first | omega | exact okFill_t rfl | exact okSize_t rfl | exact fun h => h | (simp only [World.size_alloc, World.size_drew, World.size_setCell, size_fill, bytesW]; omega)) only [go_sem, c65, c65S0, c65S1, c65S2, c65S3, c65S4, c65S5, c65S6]
  refine Ret.mono (isNaN_ok _ _) ?_
  rintro _ _ ⟨rfl, rfl⟩
  simp (disch := first | omega | exact okFill_t rfl | exact okSize_t rfl | exact fun h => h | (simp only [World.size_alloc, World.size_drew, World.size_setCell, size_fill, bytesW]; omega)) only [go_sem, c65, c65S0, c65S1, c65S2, c65S3, c65S4, c65S5, c65S6]
  refine Ret.mono (isNaN_ok _ _) ?_
  rintro _ _ ⟨rfl, rfl⟩
  simp (disch := first | omega | exact okFill_t rfl | exact okSize_t rfl | exact fun h => h | (simp only [World.size_alloc, World.size_drew, World.size_setCell, size_fill, bytesW]; omega)) only [go_sem, c65, c65S0, c65S1, c65S2, c65S3, c65S4, c65S5, c65S6]
  unfold cmpI
  refine ⟨fun h => by rw [if_pos h], fun h => ⟨fun h2 => by rw [if_neg (by omega), if_pos h2], fun h2 => by rw [if_neg (by omega), if_neg (by omega)]⟩⟩
theorem page1_ok (a b : Pge) (w : World) : Ret Tryz.prog 64 [.agg (pendV a).toArray, .agg (pendV b).toArray] w fun u w' => u = .int .i64 (pageI a b) ∧ Gr w w' := by
  refine ent64 _ _ _ _ ?_
  simp (disch := first | omega | exact okFill_t rfl | exact okSize_t rfl | exact fun h => h | (simp only [World.size_alloc, World.size_drew, World.size_setCell, size_fill, bytesW]; omega)) only [go_sem, c64, c64S0, pendV]
  refine Ret.mono (compare_ok _ _ _) ?_
  rintro _ _ ⟨rfl, rfl⟩
  simp (disch := first | omega | exact okFill_t rfl | exact okSize_t rfl | exact fun h => h | (simp only [World.size_alloc, World.size_drew, World.size_setCell, size_fill, bytesW]; omega)) only [go_sem, c64, c64S0]
  exact ⟨rfl, ((Gr.refl w).alloc _).alloc _⟩
theorem pend_one (x : Pge) : ∀ u ∈ pendV x, u.oneCell' = true := by simpa using pendV_ones [x]
theorem flatK_eq {α : Type} [Inhabited α] {enc : α → List Value} {k : Nat} (hk : ∀ x, (enc x).length = k) (d : Array α) : (Go.Sort.flatK enc k d).toList = d.toList.flatMap enc := by
  have hl : (d.toList.flatMap enc).length = d.size * k := by
    rw [List.length_flatMap, ← Array.length_toList]
    generalize d.toList = l
    induction l with
    | nil => simp
    | cons a l ih => rw [List.map_cons, List.sum_cons, ih, hk, List.length_cons, Nat.add_mul]; omega
  refine List.ext_getElem (by rw [hl, Array.length_toList, Go.Sort.size_flatK]) fun t h1 h2 => ?_
  have ht : t < d.size * k := by omega
  have hk0 : 0 < k := Nat.pos_of_ne_zero fun h => by subst h; omega
  have hi : t / k < d.size := (Nat.div_lt_iff_lt_mul hk0).2 ht
  have hj : t % k < k := Nat.mod_lt _ hk0
  have a := Go.Sort.get_flatK enc k d t ht
  rw [getElem!_pos d _ hi, getElem!_pos (enc _) _ (by rw [hk]; exact hj), getElem!_pos _ _ (by rw [Go.Sort.size_flatK]; exact ht)] at a
  rw [Array.getElem_toList, a]
  have b := flatten_at (sz := k) (d.toList.map enc) (t / k) (t % k) (enc d[t / k]) ((enc d[t / k])[t % k]'(by rw [hk]; exact hj)) (fun c hc => by obtain ⟨x, _, rfl⟩ := List.mem_map.1 hc; exact hk x) (by rw [List.getElem?_map, List.getElem?_eq_getElem (by simpa using hi)]; rfl) (List.getElem?_eq_getElem _)
  rw [show t / k * k + t % k = t by rw [Nat.mul_comm]; exact Nat.div_add_mod t k] at b
  have c : (d.toList.flatMap enc)[t]? = some ((enc d[t / k])[t % k]'(by rw [hk]; exact hj)) := b
  rw [List.getElem?_eq_getElem h2] at c
  exact (Option.some.inj c).symm
theorem own_holdsK {α : Type} [Inhabited α] {enc : α → List Value} {k B e g n cap : Nat} {w : World} {d : Array α} (hk : ∀ x, (enc x).length = k) (hd : d.size = n) (h : w.ownsRow B e k (.slice (some ⟨g, 0, none⟩) n cap) n (d.toList.flatMap enc)) :
    Go.Sort.HoldsK enc k w g 0 d := by
  obtain ⟨hl, ⟨h0, _⟩ | ⟨g', cap', cur, he, hB, hb, hc, hm, hs, hx⟩⟩ := h
  · cases h0
  cases he
  have hblk : Blk w g cur e := hb
  intro j hj
  rw [Go.Sort.size_flatK] at hj
  have hj' : j < (Go.Sort.flatK enc k d).size := by rw [Go.Sort.size_flatK]; exact hj
  refine ⟨?_, hblk.frozen _⟩
  rw [hblk.cell, Nat.zero_add, getElem!_pos (Go.Sort.flatK enc k d) j hj']
  have e1 := flatK_eq hk d
  rw [← hx] at e1
  have e2 : (Go.Sort.flatK enc k d).toList[j]? = (cur.toList.take (n * k))[j]? := by rw [e1]
  rw [List.getElem?_take_of_lt (by rw [← hd]; exact hj), Array.getElem?_toList, Array.getElem?_toList, Array.getElem?_eq_getElem hj'] at e2
  exact e2.symm
theorem own_sorted {α : Type} [Inhabited α] {enc : α → List Value} {k B e g n cap : Nat} {w : World} {d : Array α} (hk : ∀ x, (enc x).length = k) (hd : d.size = n) (h : w.ownsRow B e k (.slice (some ⟨g, 0, none⟩) n cap) n (d.toList.flatMap enc))
    (m : Nat) (d' : Array α) (os : Array Obj) (hd' : d'.size = n) : (sortWorldK enc k w g 0 m d' os).ownsRow B e k (.slice (some ⟨g, 0, none⟩) n cap) n (d'.toList.flatMap enc) ∧ Chg (fun k => k = g) w (sortWorldK enc k w g 0 m d' os) := by
  obtain ⟨hl, ⟨h0, _⟩ | ⟨g', cap', cur, he, hB, hb, hc, hm, hs, hx⟩⟩ := h
  · cases h0
  cases he
  have hg : g < w.heap.size := (Array.getElem?_eq_some_iff.1 hb).1
  have hh : (sortWorldK enc k w g 0 m d' os).heap = w.heap.modify g (Go.Sort.onCells (Go.Sort.putCells id 0 (Go.Sort.flatK enc k d'))) ++ os := rfl
  have hgb : (sortWorldK enc k w g 0 m d' os).heap[g]? = some (.cells (Go.Sort.putCells id 0 (Go.Sort.flatK enc k d') cur) e (0, 0)) := by
    rw [hh, Array.getElem?_append_left (by rw [Array.size_modify]; exact hg), Array.getElem?_modify, if_pos rfl, hb]
    rfl
  have e1 := flatK_eq hk d'
  have hle : n * k ≤ cap * k := Nat.mul_le_mul_right _ hc
  refine ⟨⟨by rw [← e1, Array.length_toList, Go.Sort.size_flatK, hd'], .inr ⟨g, cap, _, rfl, hB, hgb, hc, hm, by unfold Go.Sort.putCells; rw [Array.size_mapIdx]; exact hs, ?_⟩⟩, rfl, rfl, rfl, ?_, fun j hj hne => ?_⟩
  · rw [← e1]
    refine List.ext_getElem (by simp only [Go.Sort.putCells, List.length_take, Array.length_toList, Array.size_mapIdx, Go.Sort.size_flatK, hs, hd']; omega) fun t h1 h2 => ?_
    rw [Array.length_toList, Go.Sort.size_flatK, hd'] at h2
    rw [List.getElem_take, Array.getElem_toList, Array.getElem_toList]
    unfold Go.Sort.putCells
    rw [Array.getElem_mapIdx, if_pos ⟨Nat.zero_le _, by rw [Go.Sort.size_flatK, hd']; omega⟩, Nat.sub_zero, getElem!_pos (Go.Sort.flatK enc k d') t (by rw [Go.Sort.size_flatK, hd']; exact h2)]
    rfl
  · rw [hh, Array.size_append, Array.size_modify]; omega
  · rw [hh, Array.getElem?_append_left (by rw [Array.size_modify]; exact hj), Array.getElem?_modify, if_neg (fun e => hne e.symm)]
def Sorts (cf : Pge → Pge → Int) (l l' : List Pge) : Prop := l'.Perm l ∧ l'.Pairwise fun a b => ¬ cf b a < 0
theorem sort_ok (cf : Pge → Pge → Int) (g : Nat) (eg : ∀ args w, (callFunc g args).run Tryz.prog w = .ok (.enter g args) w) (hO : Go.Sort.SWO (ltOf cf)) (hf : ∀ a b w, Ret Tryz.prog g [.agg (pendV a).toArray, .agg (pendV b).toArray] w fun u w' => u = .int .i64 (cf a b) ∧ Gr w w')
    (v : Value) (l : List Pge) (w : World) (B : Nat) (h : w.ownsRow B 116 2 v l.length (l.flatMap pendV)) (hl : l.length ≤ 2048) (hl0 : 0 < l.length) :
    Ret Tryz.prog 63 [v, .func (.func g) #[] #[]] w fun _ w' => ∃ l', Sorts cf l l' ∧ w'.ownsRow B 116 2 v l.length (l'.flatMap pendV) ∧ Chg (fun k => v.ownBlock = some k) w w' := by
  obtain ⟨hlen, ⟨rfl, h0⟩ | ⟨g', cap, cur, rfl, hB, hb, hc, hm, hs, hx⟩⟩ := id h
  · omega
  have hcl : CmpLays Tryz.prog g #[] pendV 2 cf g' 0 l.toArray.size w := fun m os dk hdk x y => by
    have e := hf x y (sortWorldK pendV 2 w g' 0 m dk os)
    unfold Ret at e
    rw [Array.append_empty]
    exact e.mono fun e w' ⟨u, h1, h2, h3⟩ => ⟨by rw [h1, h2], h3⟩
  have hH : Go.Sort.HoldsK pendV 2 w g' 0 l.toArray := own_holdsK pendV_len (by simp) h
  have hs := AnyQ.slices_SortFunc laySortPages 2 Tryz.isAgg116 Tryz.sizeOf116 pendV pendV_len pend_one cf hO g #[] g' 0 cap l.toArray w eg hcl hH (Array.getElem?_eq_some_iff.1 hb).1 (by simp; omega)
  refine hs.mono ?_
  rintro e w' ⟨rfl, d', n, os, hp, hs, rfl⟩
  have hsz : d'.size = l.length := hp.1
  obtain ⟨o1, o2⟩ := own_sorted pendV_len (by simp) (show w.ownsRow B 116 2 (.slice (some ⟨g', 0, none⟩) l.length cap) l.length (l.toArray.toList.flatMap pendV) from h) n d' os hsz
  refine ⟨_, rfl, d'.toList, ⟨?_, ?_⟩, o1, o2.mono fun k _ e => by rw [e]; rfl⟩
  · have := hp.2.2
    simp only [List.size_toArray] at this
    rw [Array.extract_eq_self_of_le (by omega), Array.extract_eq_self_of_le (by simp)] at this
    exact this
  · rw [List.pairwise_iff_getElem]
    intro i j hi hj hij
    have := hs i j (Nat.zero_le _) hij (by simpa [hsz] using hj)
    rw [getElem!_pos d' i (by simpa using hi), getElem!_pos d' j (by simpa using hj)] at this
    simpa [ltOf] using this
theorem lt_page (a b : Pge) : ltOf pageI a b = decide (a.1 < b.1) := by
  unfold ltOf pageI cmpI
  congr 1
  split
  · rename_i h; simp [h]
  · split <;> simp_all
theorem swo_page : Go.Sort.SWO (ltOf pageI) where
  irrefl := by intro a; rw [lt_page]; simp
  trans := by intro a b c; simp only [lt_page, decide_eq_true_eq]; omega
  ntrans := by intro a b c; simp only [lt_page, decide_eq_false_iff_not]; omega
end Go.Proofs.YtmchjbgobiagiaaGreat

namespace Go.Proofs.YtmchjbgobiagiaaGreat
set_option linter.unusedSimpArgs false
set_option linter.unusedVariables false
set_option maxRecDepth 100000
open Go Go.Ann Go.RowKit Go.WideShapes Go.Shelf
def dirtyL (s : Sto) : List Pge := s.dirty.map fun x => (x.1, x.2.1)
theorem left_in {d : List (Int × List UInt8 × Nat)} {D : List (Int × List UInt8 × Nat)} {e : MapEntry} (h : e ∈ (leftOf (d.map (entG intK strK)).toArray (D.map fun x => x.2.2).toArray).toList) : ∃ x ∈ d, e = entG intK strK x ∧ x.2.2 ∉ D.map fun x => x.2.2 := by
  unfold leftOf at h
  rw [Array.toList_filter, List.mem_filter] at h
  obtain ⟨h1, h2⟩ := h
  obtain ⟨x, hx, rfl⟩ := List.mem_map.1 h1
  refine ⟨x, hx, rfl, ?_⟩
  simpa [entG] using h2
theorem left_none {d : List (Int × List UInt8 × Nat)} {D : List (Int × List UInt8 × Nat)} (h : (leftOf (d.map (entG intK strK)).toArray (D.map fun x => x.2.2).toArray).size = 0) : ∀ x ∈ d, x.2.2 ∈ D.map fun x => x.2.2 := by
  intro x hx
  unfold leftOf at h
  rw [← Array.length_toList, Array.toList_filter, List.length_eq_zero_iff, List.filter_eq_nil_iff] at h
  have := h (entG intK strK x) (List.mem_map_of_mem hx)
  simpa [entG] using this
theorem all_perm {d D : List (Int × List UInt8 × Nat)} (hb : (d.map fun x => x.2.2).Nodup) (hD : (D.map fun x => x.2.2).Nodup) (hs : ∀ x ∈ D, x ∈ d) (ha : ∀ x ∈ d, x.2.2 ∈ D.map fun x => x.2.2) : D.Perm d := by
  have inj : ∀ x ∈ d, ∀ y ∈ d, x.2.2 = y.2.2 → x = y := fun x hx y hy e => by
    obtain ⟨i, hi, rfl⟩ := List.mem_iff_getElem.1 hx
    obtain ⟨j, hj, rfl⟩ := List.mem_iff_getElem.1 hy
    have hp := List.pairwise_iff_getElem.1 hb
    rcases Nat.lt_trichotomy i j with h | h | h
    · exact absurd (by rw [List.getElem_map, List.getElem_map]; exact e) (hp i j (by simpa using hi) (by simpa using hj) h)
    · subst h; rfl
    · exact absurd (by rw [List.getElem_map, List.getElem_map]; exact e.symm) (hp j i (by simpa using hj) (by simpa using hi) h)
  have nd : ∀ l : List (Int × List UInt8 × Nat), (l.map fun x => x.2.2).Nodup → l.Nodup := fun l h => by
    unfold List.Nodup at h ⊢
    rw [List.pairwise_map] at h
    exact h.imp fun h e => h (by rw [e])
  refine (List.perm_ext_iff_of_nodup (nd D hD) (nd d hb)).2 fun x => ⟨hs x, fun hx => ?_⟩
  obtain ⟨y, hy, e⟩ := List.mem_map.1 (ha x hx)
  have := inj y (hs y hy) x hx e
  rw [← this]; exact hy
theorem nodup_le {d D : List (Int × List UInt8 × Nat)} (hD : (D.map fun x => x.2.2).Nodup) (hs : ∀ x ∈ D, x ∈ d) : D.length ≤ d.length := by
  have nd : D.Nodup := by
    unfold List.Nodup at hD ⊢
    rw [List.pairwise_map] at hD
    exact hD.imp fun h e => h (by rw [e])
  induction D generalizing d with
  | nil => exact Nat.zero_le _
  | cons a D ih =>
    rw [List.nodup_cons] at nd
    have h1 : ∀ x ∈ D, x ∈ d.erase a := fun x hx => (List.mem_erase_of_ne (fun e => nd.1 (by rw [← e]; exact hx))).2 (hs x (List.mem_cons_of_mem _ hx))
    have := ih (by rw [List.map_cons, List.nodup_cons] at hD; exact hD.2) h1 nd.2
    have ha := hs a (List.mem_cons_self ..)
    rw [List.length_erase_of_mem ha] at this
    have := List.length_pos_of_mem ha
    rw [List.length_cons]; omega
section
variable {W0 w : World} {F : Nat → Prop} {L : List Res} {I : List Inv} {b mb g : Nat} {vb vl v : Value} {s : Sto} {l : List Pge}
theorem goSort : goFunc Tryz.prog 63 = true := by kernel_rfl
structure ComOut (s : Sto) (r : Int) (s' : Sto) : Prop where
  out : (stReady s 0 ≠ 0 ∧ r = stReady s 0 ∧ s' = s) ∨ (stReady s 0 = 0 ∧ s.dirty = [] ∧ r = 0 ∧ s' = s) ∨
    (stReady s 0 = 0 ∧ s.dirty ≠ [] ∧ ∃ l, Sorts pageI (dirtyL s) l ∧ ((s.hd.room < blocksN l.length ∧ r = 12 ∧ s' = { s with dirty := [] }) ∨
      (blocksN l.length ≤ s.hd.room ∧ r = (comN s.disk s.hd l).2 ∧ ∃ hd', ((comN s.disk s.hd l).2 = 0 → hd' = nextH (nextH s.hd (blocksN l.length)) 0) ∧ s' = { hd := hd', dirty := [], clock := s.clock, dead := decide (r ≠ 0), disk := (comN s.disk s.hd l).1 })))
theorem scommit_ok (h : St W0 w F (StoL b mb g vb vl s ++ L) I) (ok : s.ok) (hseq : s.hd.seq + 2 < 1000000) (hless : s.disk.late.length < 800000) :
    Ret Tryz.prog 39 [.pointer (some ⟨b, 0, none⟩)] w fun r w' => ∃ e s' vl', r = .int .i64 e ∧ ComOut s e s' ∧ St W0 w' F (StoL b mb g vb vl' s' ++ L) I := by
  refine ent39 _ _ _ ?_
  simp (disch := first | omega | exact okFill_t rfl | exact okSize_t rfl | exact fun h => h | (simp only [World.size_alloc, World.size_drew, World.size_setCell, size_fill, bytesW]; omega)) only [go_sem, c39, c39S0, c39S1, c39S2, c39S3, c39S4, c39S5, c39S6, c39S7, c39S8]
  refine Ret.mono (sready_ok 0 h) ?_
  rintro _ w2 ⟨rfl, e2⟩
  subst w2
  by_cases hr : stReady s 0 = 0
  case neg =>
    simp (disch := first | omega | exact okFill_t rfl | exact okSize_t rfl | exact fun h => h | (simp only [World.size_alloc, World.size_drew, World.size_setCell, size_fill, bytesW]; omega)) only [go_sem, c39, c39S0, c39S1, c39S2, c39S3, c39S4, c39S5, c39S6, c39S7, c39S8, hr]
    exact ⟨_, s, vl, rfl, ⟨.inl ⟨hr, rfl, rfl⟩⟩, h⟩
  have r1 := h.rules 0 rfl
  simp (disch := first | omega | exact okFill_t rfl | exact okSize_t rfl | exact fun h => h | (simp only [World.size_alloc, World.size_drew, World.size_setCell, size_fill, bytesW]; omega)) only [go_sem, c39, c39S0, c39S1, c39S2, c39S3, c39S4, c39S5, c39S6, c39S7, c39S8, hr, r1]
  refine lenG (ek := intK) (ev := strK) Tryz.underlying99 (h.obj 1 rfl) ?_
  by_cases hd : s.dirty = []
  · have h0 : (s.dirty.length : Int) = 0 := by rw [hd]; rfl
    simp (disch := first | omega | exact okFill_t rfl | exact okSize_t rfl | exact fun h => h | (simp only [World.size_alloc, World.size_drew, World.size_setCell, size_fill, bytesW]; omega)) only [go_sem, c39, c39S0, c39S1, c39S2, c39S3, c39S4, c39S5, c39S6, c39S7, c39S8, h0]
    exact ⟨_, s, vl, rfl, ⟨.inr (.inl ⟨hr, hd, rfl, rfl⟩)⟩, h⟩
  have hd0 : 0 < s.dirty.length := List.length_pos_iff.2 hd
  have h0 : ¬ (s.dirty.length : Int) = 0 := by omega
  simp (disch := first | omega | exact okFill_t rfl | exact okSize_t rfl | exact fun h => h | (simp only [World.size_alloc, World.size_drew, World.size_setCell, size_fill, bytesW]; omega)) only [go_sem, c39, c39S0, c39S1, c39S2, c39S3, c39S4, c39S5, c39S6, c39S7, c39S8, h0, r1]
  refine rgG Tryz.underlying99 (h.obj 1 rfl) ?_
  have s1 := (h.lay (.mapIter (some mb) s.clock #[] s.clock)).nilRow 116 2
  generalize w.heap.size = q at s1 ⊢
  generalize w.alloc (.mapIter (some mb) s.clock #[] s.clock) = w1 at s1 ⊢
  have s1 : St W0 w1 F (.row (.slice none 0 0) 116 2 0 [] :: .obj q (.mapIter (some mb) s.clock #[] s.clock) :: (StoL b mb g vb vl s ++ L)) I := s1
  simp (disch := first | omega | exact okFill_t rfl | exact okSize_t rfl | exact fun h => h | (simp only [World.size_alloc, World.size_drew, World.size_setCell, size_fill, bytesW]; omega)) only [go_sem, c39, c39S0, c39S1, c39S2, c39S3, c39S4, c39S5, c39S6, c39S7, c39S8]
  refine W_loopU (fun z : List (Int × List UInt8 × Nat) × Value => [(4, z.2)]) (fun z w' => (∀ x ∈ z.1, x ∈ s.dirty) ∧ (z.1.map fun x => x.2.2).Nodup ∧ St W0 w' F (.row z.2 116 2 z.1.length ((z.1.map fun x => (x.1, x.2.1)).flatMap pendV) :: .obj q (.mapIter (some mb) s.clock (z.1.map fun x => x.2.2).toArray s.clock) :: (StoL b mb g vb vl s ++ L)) I) (fun z => s.dirty.length - z.1.length) ([], .slice none 0 0) rfl ⟨fun _ h => (by cases h), List.Pairwise.nil, s1⟩ ?_
  clear s1
  rintro ⟨D, vo⟩ w2 ⟨hD1, hD2, s2⟩
  simp only at hD1 hD2 s2
  have hle := nodup_le hD2 hD1
  obtain ⟨ao, co, rfl, _⟩ := own_slice (s2.row 0 rfl)
  have hdl : s.dirty.length ≤ 1024 := by
    have := nodup_few s.hd.pages (s.dirty.map Prod.fst) ok.nd fun x hx => by
      obtain ⟨y, hy, rfl⟩ := List.mem_map.1 hx
      exact ⟨(ok.keys y hy).1, (ok.keys y hy).2.1⟩
    rw [List.length_map] at this
    have := ok.few
    omega
  simp (disch := first | omega | exact okFill_t rfl | exact okSize_t rfl | exact fun h => h | (simp only [World.size_alloc, World.size_drew, World.size_setCell, size_fill, bytesW]; omega)) only [go_sem, c39, c39S0, c39S1, c39L0, c39S2, c39S3, c39S4, c39S5, c39S6, c39S8, c39L0]
  refine nxG (s2.obj 1 rfl) (s2.obj 3 rfl) (fun e he => ?_) (Nat.le_refl _) (fun h0' => ?_) (fun e he w3 hw3 => ?_)
  · obtain ⟨x, hx, rfl⟩ := List.mem_map.1 he
    exact ok.clock x hx
  · simp (disch := first | omega | exact okFill_t rfl | exact okSize_t rfl | exact fun h => h | (simp only [World.size_alloc, World.size_drew, World.size_setCell, size_fill, bytesW]; omega)) only [go_sem, c39, c39S0, c39S1, c39L0, c39S2, c39S3, c39S4, c39S5, c39S6, c39S8]
    have hall := left_none h0'
    have hperm := all_perm ok.born hD2 hD1 hall
    have hlen : D.length = s.dirty.length := hperm.length_eq
    have s3 : St W0 w2 F (.row (.slice ao D.length co) 116 2 (D.map fun x => ((x.1, x.2.1) : Pge)).length ((D.map fun x => ((x.1, x.2.1) : Pge)).flatMap pendV) :: (StoL b mb g vb vl s ++ L)) I := by
      rw [List.length_map]
      exact s2.sub (List.Sublist.cons_cons _ (List.sublist_cons_self _ _))
    clear s2
    have hDp : (D.map fun x => ((x.1, x.2.1) : Pge)).Perm (dirtyL s) := hperm.map _
    generalize hDl : (D.map fun x => ((x.1, x.2.1) : Pge)) = l0 at s3 hDp
    have hl0 : l0.length = D.length := by rw [← hDl, List.length_map]
    simp (disch := first | omega | exact okFill_t rfl | exact okSize_t rfl | exact fun h => h | (simp only [World.size_alloc, World.size_drew, World.size_setCell, size_fill, bytesW]; omega)) only [go_sem, c39, c39S0, c39S1, c39L0, c39S2, c39S3, c39S4, c39S5, c39S7, c39S8, goSort]
    rw [← hl0] at s3 ⊢
    refine Ret.mono (sort_ok pageI _ (enters_of Tryz.func64 (by kernel_rfl) rfl) swo_page page1_ok _ l0 w2 _ (s3.row 0 rfl) (by omega) (by omega)) ?_
    rintro _ w4 ⟨l', hsort, hrow, hchg⟩
    have hl' : l'.length = l0.length := hsort.1.length_eq
    have s4 := s3.upd 0 rfl hchg (.row (.slice ao l0.length co) 116 2 l0.length (l'.flatMap pendV)) hrow fun k hk => .inl hk
    rw [← hl'] at s4 ⊢
    have s4 : St W0 w4 F (.row (.slice ao l'.length co) 116 2 l'.length (l'.flatMap pendV) :: (StoL b mb g vb vl s ++ L)) I := s4
    have r4 := s4.rules 1 rfl
    simp (disch := first | omega | exact okFill_t rfl | exact okSize_t rfl | exact fun h => h | (simp only [World.size_alloc, World.size_drew, World.size_setCell, size_fill, bytesW]; omega)) only [go_sem, c39, c39S0, c39S1, c39L0, c39S2, c39S3, c39S4, c39S5, c39S6, c39S7, c39S8, r4]
    refine clearG Tryz.underlying99 (s4.obj 2 rfl) ?_
    have s5 := s4.putObj 2 rfl (mapG intK strK [] s.clock)
    have e5 : mapG intK strK [] s.clock = .map #[] s.clock := rfl
    rw [e5] at s5
    generalize w4.putObj mb (.map #[] s.clock) = w5 at s5 ⊢
    have s5 : St W0 w5 F (.row (.slice ao l'.length co) 116 2 l'.length (l'.flatMap pendV) :: (StoL b mb g vb vl { s with dirty := [] } ++ L)) I := s5
    have hS : Sorts pageI (dirtyL s) l' := ⟨hsort.1.trans hDp, hsort.2⟩
    simp (disch := first | omega | exact okFill_t rfl | exact okSize_t rfl | exact fun h => h | (simp only [World.size_alloc, World.size_drew, World.size_setCell, size_fill, bytesW]; omega)) only [go_sem, c39, c39S0, c39S1, c39L0, c39S2, c39S3, c39S4, c39S5, c39S6, c39S7, c39S8]
    refine c39draw0 (Same (fun k => k = b) _) (Same.refl _ _) ?_
    have s6 := s5.drew
    have r6 := s6.rules 1 rfl
    generalize w5.drew = w6 at s6 r6 ⊢
    simp (disch := first | omega | exact okFill_t rfl | exact okSize_t rfl | exact fun h => h | (simp only [World.size_alloc, World.size_drew, World.size_setCell, size_fill, bytesW]; omega)) only [go_sem, c39, c39S0, c39S1, c39L0, c39S2, c39S3, c39S4, c39S5, c39S6, c39S7, c39S8, c39D0, r6]
    refine Ret.mono (blocks_ok l'.length w6 (by omega)) ?_
    rintro _ w7 ⟨rfl, e7⟩
    subst w7
    by_cases hroom : s.hd.room < blocksN l'.length
    · have hroom' : (s.hd.room : Int) < blocksN l'.length := by omega
      simp (disch := first | omega | exact okFill_t rfl | exact okSize_t rfl | exact fun h => h | (simp only [World.size_alloc, World.size_drew, World.size_setCell, size_fill, bytesW]; omega)) only [go_sem, c39, c39S0, c39S1, c39L0, c39S2, c39S3, c39S4, c39S5, c39S6, c39S7, c39S8, hroom']
      exact ⟨Same.refl _ _, _, _, vl, rfl, ⟨.inr (.inr ⟨hr, hd, l', hS, .inl ⟨hroom, rfl, rfl⟩⟩)⟩, s6.sub (List.sublist_cons_self _ _)⟩
    · have hroom' : ¬ (s.hd.room : Int) < blocksN l'.length := by omega
      have hfit := ok.fit
      have hfew := ok.disk.few
      have hp : ∀ p ∈ l', 0 ≤ p.1 ∧ p.1 < s.hd.pages ∧ p.2.length = 256 := fun p hp => by
        obtain ⟨x, hx, rfl⟩ := List.mem_map.1 (hS.1.subset hp)
        exact ok.keys x hx
      have s7 := s6.seal (.rd 2 pendV (.slice ao l'.length co) l') (RdS.of_own' (s6.row 0 rfl) l' rfl rfl) fun k hk => slFoot_own hk
      simp (disch := first | omega | exact okFill_t rfl | exact okSize_t rfl | exact fun h => h | (simp only [World.size_alloc, World.size_drew, World.size_setCell, size_fill, bytesW]; omega)) only [go_sem, c39, c39S0, c39S1, c39L0, c39S2, c39S3, c39S4, c39S5, c39S6, c39S7, c39S8, hroom']
      refine ⟨Same.refl _ _, Ret.mono (commit_ok s7 ok.disk hseq hp (by omega) ⟨show s.hd.room ≤ 2048 by omega, ok.few⟩ (by show blocksN l'.length ≤ s.hd.room; omega) hless) ?_⟩
      rintro _ w8 ⟨rfl, vl', hd', hhd, s8⟩
      have r8 := s8.rules 0 rfl
      simp (disch := first | omega | exact okFill_t rfl | exact okSize_t rfl | exact fun h => h | (simp only [World.size_alloc, World.size_drew, World.size_setCell, size_fill, bytesW]; omega)) only [go_sem, c39, c39S0, c39S1, c39L0, c39S2, c39S3, c39S4, c39S5, c39S6, c39S7, c39S8, r8]
      have eb : (!decide ((comN s.disk s.hd l').2 = 0)) = decide ((comN s.disk s.hd l').2 ≠ 0) := by simp
      rw [eb]
      have s9 := s8.set 0 rfl 6 (.bool (decide ((comN s.disk s.hd l').2 ≠ 0)))
      exact ⟨_, { hd := hd', dirty := [], clock := s.clock, dead := decide ((comN s.disk s.hd l').2 ≠ 0), disk := (comN s.disk s.hd l').1 }, vl', rfl, ⟨.inr (.inr ⟨hr, hd, l', hS, .inr ⟨by omega, rfl, hd', hhd, rfl⟩⟩)⟩, s9⟩
  · obtain ⟨x, hx, rfl, hxn⟩ := left_in he
    have s3 : St W0 w3 F (.row (.slice ao D.length co) 116 2 D.length ((D.map fun x => (x.1, x.2.1)).flatMap pendV) :: .obj q (.mapIter (some mb) s.clock (D.map fun x => x.2.2).toArray s.clock) :: (StoL b mb g vb vl s ++ L)) I := by
      rcases hw3 with rfl | rfl
      · exact s2
      · exact s2.drew
    have s4 := s3.putObj 1 rfl (.mapIter (some mb) s.clock ((D.map fun x => x.2.2).toArray.push x.2.2) s.clock)
    simp (disch := first | omega | exact okFill_t rfl | exact okSize_t rfl | exact fun h => h | (simp only [World.size_alloc, World.size_drew, World.size_setCell, size_fill, bytesW]; omega)) only [go_sem, c39, c39S0, c39S1, c39L0, c39S2, c39S3, c39S4, c39S5, c39S6, c39S8]
    have hbn : ((s.dirty.map (entG intK strK)).toArray.toList.map (·.born)).Nodup := by
      rw [List.toList_toArray, List.map_map]
      exact ok.born
    have hxe : (x.1, x.2.1) = ((x.1, x.2.1) : Pge) := rfl
    refine enG (s4.obj 1 rfl) (s4.obj 3 rfl) (by rw [List.toList_toArray]; exact List.mem_map_of_mem hx) hbn ?_
    simp (disch := first | omega | exact okFill_t rfl | exact okSize_t rfl | exact fun h => h | (simp only [World.size_alloc, World.size_drew, World.size_setCell, size_fill, bytesW]; omega)) only [go_sem, c39, c39S0, c39S1, c39L0, c39S2, c39S3, c39S4, c39S5, c39S6, c39S8, entG, intK, strK]
    have hone := pend_one (x.1, x.2.1)
    refine bdW_built (cells := (pendV (x.1, x.2.1)).toArray) (by kernel_rfl) ?_
    simp (disch := first | omega | exact okFill_t rfl | exact okSize_t rfl | exact fun h => h | (simp only [World.size_alloc, World.size_drew, World.size_setCell, size_fill, bytesW]; omega)) only [go_sem, c39, c39S0, c39S1, c39L0, c39S2, c39S3, c39S4, c39S5, c39S6, c39S8]
    refine bsW_agg ty102mkI rfl (by decide) (by decide) ?_
    have hDl : D.length < s.dirty.length := by
      have hn2 : ((x :: D).map fun x => x.2.2).Nodup := by rw [List.map_cons, List.nodup_cons]; exact ⟨hxn, hD2⟩
      have := nodup_le hn2 fun y hy => by
        rcases List.mem_cons.1 hy with rfl | hy
        · exact hx
        · exact hD1 y hy
      rw [List.length_cons] at this
      omega
    generalize hw4 : w3.putObj q (.mapIter (some mb) s.clock ((D.map fun x => x.2.2).toArray.push x.2.2) s.clock) = w4 at s4 ⊢
    have hx2 : Rd (w4.alloc (.cells (pendV (x.1, x.2.1)).toArray 116)) 2 (.slice (some ⟨w4.heap.size, 0, none⟩) 1 1) 1 (pendV (x.1, x.2.1)) := rd_new (n := 1) (cs := (pendV (x.1, x.2.1)).toArray) rfl
    simp (disch := first | omega | exact okFill_t rfl | exact okSize_t rfl | exact fun h => h | (simp only [World.size_alloc, World.size_drew, World.size_setCell, size_fill, bytesW]; omega)) only [go_sem, c39, c39S0, c39S1, c39L0, c39S2, c39S3, c39S4, c39S5, c39S6, c39S8]
    refine (s4.alloc' (.cells (pendV (x.1, x.2.1)).toArray 116)).append 0 rfl ty102mkI rfl (by decide) hx2 hone (by omega) (by omega) ?_
    intro v6 w6 s6 c6
    simp (disch := first | omega | exact okFill_t rfl | exact okSize_t rfl | exact fun h => h | (simp only [World.size_alloc, World.size_drew, World.size_setCell, size_fill, bytesW]; omega)) only [go_sem, c39, c39S0, c39S1, c39L0, c39S2, c39S3, c39S4, c39S5, c39S6, c39S8]
    refine ⟨(D ++ [x], v6), rfl, ⟨fun y hy => ?_, ?_, st_recast s6 ?_⟩, by simp only [List.length_append, List.length_singleton]; omega⟩
    · rcases List.mem_append.1 hy with hy | hy
      · exact hD1 y hy
      · rw [List.mem_singleton] at hy; subst hy; exact hx
    · rw [List.map_append, List.nodup_append]
      refine ⟨hD2, List.pairwise_singleton _ _, fun a ha c hc => ?_⟩
      rw [List.map_cons, List.map_nil, List.mem_singleton] at hc
      subst hc
      exact fun e => hxn (e ▸ ha)
    · simp only [List.length_append, List.length_singleton, List.map_append, List.map_cons, List.map_nil, List.flatMap_append, List.flatMap_cons, List.flatMap_nil, List.append_nil, List.push_toArray]
      rfl
end
end Go.Proofs.YtmchjbgobiagiaaGreat

namespace Go.Proofs.YtmchjbgobiagiaaGreat
set_option linter.unusedSimpArgs false
set_option linter.unusedVariables false
set_option maxRecDepth 100000
open Go Go.Ann Go.RowKit Go.WideShapes Go.Shelf
theorem wrsN_ok : ∀ (l : List (Int × List UInt8)) (m : Dk), m.ok → m.late.length + l.length < 1000000 → (wrsN m l).1.ok ∧ (wrsN m l).1.late.length ≤ m.late.length + l.length
  | [], m, ok, _ => ⟨ok, Nat.le_refl _⟩
  | x :: l, m, ok, hl => by
    rw [List.length_cons] at hl
    have h1 := writeN_ok ok (by omega) x.1 x.2
    have h2 := writeN_late m x.1 x.2
    rw [wrsN]
    split
    · exact ⟨h1, by rw [List.length_cons]; omega⟩
    · obtain ⟨h3, h4⟩ := wrsN_ok l _ h1 (by omega)
      exact ⟨h3, by rw [List.length_cons]; omega⟩
theorem batN_ok {m : Dk} {l : List (Int × List UInt8)} (ok : m.ok) (hl : m.late.length + l.length < 1000000) : (batN m l).1.ok ∧ (batN m l).1.late.length ≤ m.late.length + l.length := by
  obtain ⟨h1, h2⟩ := wrsN_ok l m ok hl
  have h3 := flushN_late (wrsN m l).1
  unfold batN
  split
  · exact ⟨h1, h2⟩
  · exact ⟨flushN_ok h1, by omega⟩
theorem finN_ok {m : Dk} {h : Hd} {l : List Pge} (ok : m.ok) (hl : m.late.length + l.length < 900000) : (finN m h l).1.ok ∧ (finN m h l).1.late.length ≤ m.late.length + l.length + 1 := by
  have hw : (homeW h l).length = l.length := by unfold homeW; rw [List.length_map]
  obtain ⟨h1, h2⟩ := batN_ok (l := homeW h l) ok (by omega)
  have h3 := putN_late (batN m (homeW h l)).1 (nextH h 0)
  unfold finN
  split
  · exact ⟨h1, by omega⟩
  · exact ⟨putN_ok h1 (by omega), by omega⟩
theorem comN_ok {m : Dk} {h : Hd} {l : List Pge} (ok : m.ok) (hl : m.late.length + l.length + blocksN l.length < 800000) : (comN m h l).1.ok ∧ (comN m h l).1.late.length ≤ m.late.length + l.length + blocksN l.length + 2 := by
  have hw : (jouW l).length = blocksN l.length := by unfold jouW; rw [List.length_map, List.length_range]
  obtain ⟨h1, h2⟩ := batN_ok (l := jouW l) ok (by omega)
  have h3 := putN_late (batN m (jouW l)).1 (nextH h (blocksN l.length))
  unfold comN
  split
  · exact ⟨h1, by omega⟩
  · split
    · exact ⟨putN_ok h1 (by omega), by omega⟩
    · obtain ⟨h4, h5⟩ := finN_ok (h := nextH h (blocksN l.length)) (l := l) (putN_ok (h := nextH h (blocksN l.length)) h1 (by omega)) (by omega)
      exact ⟨h4, by omega⟩
theorem writeN_len (m : Dk) (i : Int) (d : List UInt8) : (writeN m i d).1.safe.length = m.safe.length := by
  have hl := useN_late m
  unfold writeN
  split
  · rfl
  · split
    · rfl
    · split
      · show (useN m).1.safe.length = _; rw [hl.2]
      · rw [hl.2]
theorem flushN_len (m : Dk) : (flushN m).1.safe.length = m.safe.length := by
  have hl := useN_late m
  unfold flushN
  split
  · rfl
  · split
    · rw [hl.2]
    · exact doneL_length _ _
theorem wrsN_len : ∀ (l : List (Int × List UInt8)) (m : Dk), (wrsN m l).1.safe.length = m.safe.length
  | [], _ => rfl
  | x :: l, m => by
    rw [wrsN]
    split
    · exact writeN_len m x.1 x.2
    · rw [wrsN_len l, writeN_len]
theorem batN_len (m : Dk) (l : List (Int × List UInt8)) : (batN m l).1.safe.length = m.safe.length := by
  unfold batN
  split
  · exact wrsN_len l m
  · rw [flushN_len, wrsN_len]
theorem putN_len (m : Dk) (h : Hd) : (putN m h).1.safe.length = m.safe.length := by rw [putN_bat, batN_len]
theorem finN_len (m : Dk) (h : Hd) (l : List Pge) : (finN m h l).1.safe.length = m.safe.length := by
  unfold finN
  split
  · exact batN_len _ _
  · rw [putN_len, batN_len]
theorem comN_len (m : Dk) (h : Hd) (l : List Pge) : (comN m h l).1.safe.length = m.safe.length := by
  unfold comN
  split
  · exact batN_len _ _
  · split
    · rw [putN_len, batN_len]
    · rw [finN_len, putN_len, batN_len]
theorem getM_mem {κ ν : Type} [DecidableEq κ] {a : κ} {v : ν} {c : Nat} : ∀ {l : List (κ × ν × Nat)}, (l.map Prod.fst).Nodup → (a, v, c) ∈ l → getM a l = some v
  | [], _, h => by cases h
  | x :: l, hn, h => by
    rw [List.map_cons, List.nodup_cons] at hn
    simp only [getM]
    rcases List.mem_cons.1 h with rfl | h
    · rw [if_pos rfl]
    · rw [if_neg (fun e => hn.1 (by rw [← e]; exact List.mem_map_of_mem (f := Prod.fst) h))]
      exact getM_mem hn.2 h
theorem getM_no {κ ν : Type} [DecidableEq κ] {a : κ} : ∀ {l : List (κ × ν × Nat)}, (∀ x ∈ l, x.1 ≠ a) → getM a l = none
  | [], _ => rfl
  | x :: l, h => by
    simp only [getM]
    rw [if_neg (fun e => h x (List.mem_cons_self ..) e.symm)]
    exact getM_no fun y hy => h y (List.mem_cons_of_mem _ hy)
structure Good (s : Sto) (P : List (List UInt8)) : Prop where
  ok : s.ok
  dead : s.dead = false
  gone : s.disk.gone = false
  late : s.disk.late = []
  top : Top s.disk.safe s.hd
  used : s.hd.used = 0
  base : Base s.disk.safe s.hd
  home : Home s.disk.safe s.hd P
section
variable {s s' : Sto} {P : List (List UInt8)} {e : Int}
theorem Good.now (g : Good s P) {i : Nat} (hi : i < s.hd.pages) : nowP s i = (getM (i : Int) s.dirty).getD (P.getD i []) := by
  rw [(nowP_eq g.ok g.dead g.gone (by omega) (by omega)).2, g.late]
  congr 1
  have e : (homeN s i).toNat = 2 + s.hd.room + i := by unfold homeN; omega
  rw [e]
  exact g.home.2 i hi
theorem Good.len (g : Good s P) : P.length = s.hd.pages := g.home.1
theorem Good.pgs0 (g : Good s P) (hd : s.dirty = []) : pgs s = P := by
  refine pgs_eq g.len fun i hi => ?_
  rw [g.now (by rw [← g.len]; exact hi), hd]; rfl
theorem dirty_len (ok : s.ok) : s.dirty.length ≤ s.hd.pages := by
  have := nodup_few s.hd.pages (s.dirty.map Prod.fst) ok.nd fun x hx => by
    obtain ⟨y, hy, rfl⟩ := List.mem_map.1 hx
    exact ⟨(ok.keys y hy).1, (ok.keys y hy).2.1⟩
  rwa [List.length_map] at this
theorem Good.sorted (g : Good s P) {l : List Pge} (hS : Sorts pageI (dirtyL s) l) : l.length = s.dirty.length ∧ (∀ p ∈ l, 0 ≤ p.1 ∧ p.1 < s.hd.pages ∧ p.2.length = 256) ∧ (l.map Prod.fst).Nodup ∧ (∀ p ∈ l, (pgs s).getD p.1.toNat [] = p.2) ∧ ∀ i, i < s.hd.pages → (∀ p ∈ l, p.1.toNat ≠ i) → P.getD i [] = (pgs s).getD i [] := by
  have hmem : ∀ p ∈ l, ∃ x ∈ s.dirty, p = (x.1, x.2.1) := fun p hp => by
    obtain ⟨x, hx, rfl⟩ := List.mem_map.1 (hS.1.subset hp)
    exact ⟨x, hx, rfl⟩
  have hget : ∀ i, i < s.hd.pages → (pgs s).getD i [] = nowP s i := fun i hi => by
    rw [List.getD_eq_getElem?_getD, List.getElem?_eq_getElem (by rw [pgs_len]; exact hi), Option.getD_some, pgs_get]
  refine ⟨by rw [hS.1.length_eq]; unfold dirtyL; rw [List.length_map], fun p hp => ?_, ?_, fun p hp => ?_, fun i hi hn => ?_⟩
  · obtain ⟨x, hx, rfl⟩ := hmem p hp
    exact g.ok.keys x hx
  · have := (hS.1.map Prod.fst).nodup_iff.2 (by
      unfold dirtyL
      rw [List.map_map]
      exact g.ok.nd)
    exact this
  · obtain ⟨x, hx, rfl⟩ := hmem p hp
    obtain ⟨k0, k1, _⟩ := g.ok.keys x hx
    rw [hget _ (by simp only; omega), g.now (by simp only; omega)]
    simp only
    rw [show ((x.1.toNat : Nat) : Int) = x.1 by omega, getM_mem (v := x.2.1) (c := x.2.2) g.ok.nd hx]; rfl
  · rw [hget i hi, g.now hi, getM_no fun x hx e => ?_]
    · rfl
    · have : ((x.1, x.2.1) : Pge) ∈ l := hS.1.symm.subset (List.mem_map_of_mem (f := fun x : Int × List UInt8 × Nat => ((x.1, x.2.1) : Pge)) hx)
      exact hn _ this (by simp only; omega)
theorem Good.commit (g : Good s P) (hl : s.disk.left = -1) (hseq : s.hd.seq + 2 < 1000000) (c : ComOut s e s') :
    (e = 0 ∧ (s.dirty = [] ∨ blocksN s.dirty.length ≤ s.hd.room) ∧ Good s' (pgs s) ∧ s'.dirty = [] ∧ s'.disk.left = -1 ∧ s'.hd.pages = s.hd.pages ∧ s'.hd.room = s.hd.room ∧ s'.hd.seq ≤ s.hd.seq + 2 ∧ s'.disk.safe.length = s.disk.safe.length) ∨
    (e = 12 ∧ s.dirty ≠ [] ∧ s.hd.room < blocksN s.dirty.length ∧ s' = { s with dirty := [] }) := by
  have hr : stReady s 0 = 0 := stReady_ok g.dead (by decide) (by have := g.ok.pages; omega)
  rcases c.out with ⟨h, _⟩ | ⟨_, hd, rfl, rfl⟩ | ⟨_, hd, l, hS, h⟩
  · exact absurd hr h
  · rw [g.pgs0 hd]
    exact .inl ⟨rfl, .inl hd, g, hd, hl, rfl, rfl, Nat.le_add_right _ _, rfl⟩
  · obtain ⟨a1, a2, a3, a4, a5⟩ := g.sorted hS
    rcases h with ⟨hroom, rfl, rfl⟩ | ⟨hroom, rfl, hd', hhd, rfl⟩
    · exact .inr ⟨rfl, hd, by rw [← a1]; exact hroom, rfl⟩
    · have hl1 : l.length ≤ 1024 := by
        have h1 := dirty_len g.ok
        have h2 := g.ok.few
        omega
      have hbl : blocksN l.length ≤ 1041 := by unfold blocksN hdsN; omega
      rcases com_cases (N := pgs s) ⟨rfl, g.late, g.gone⟩ g.top g.used g.home g.base hseq hl1 a2 a3 hroom (pgs_len s) a4 a5 with ⟨c1, ⟨S, u, t, b, hm⟩, c3⟩ | ⟨c1, c2⟩
      · obtain rfl := hhd c1
        have hcok := (comN_ok (h := s.hd) (l := l) g.ok.disk (by rw [g.late]; simp only [List.length_nil]; omega)).1
        have hsl : (comN s.disk s.hd l).1.safe.length = S.length := by rw [u.safe]
        left
        rw [c1]
        have hfit := t.geo.fit
        refine ⟨rfl, .inr (by rw [← a1]; exact hroom), ⟨⟨t.ok, hcok, g.ok.room, g.ok.pages, g.ok.few, ?_, fun _ h => (by cases h), List.Pairwise.nil, List.Pairwise.nil, fun _ h => (by cases h)⟩, rfl, u.gone, u.late, by simp only; rw [u.safe]; exact t, rfl, by simp only; rw [u.safe]; exact b, by simp only; rw [u.safe]; exact hm⟩, rfl, c3 hl, rfl, rfl, Nat.le_refl _, ?_⟩
        · rw [hsl]; exact hfit
        · exact comN_len _ _ _
      · exact absurd hl c2.lim
end
end Go.Proofs.YtmchjbgobiagiaaGreat

namespace Go.Proofs.YtmchjbgobiagiaaGreat
set_option linter.unusedSimpArgs false
set_option linter.unusedVariables false
set_option maxRecDepth 100000
open Go Go.Ann Go.RowKit Go.WideShapes Go.Shelf
def sto4 (n room : Nat) : Sto := ⟨headN n room, [], 0, false, fmtDk n (headN n room)⟩
theorem sto4_good {n room : Nat} (h1 : 1 ≤ room) (h2 : room + 3 ≤ n) (h3 : n ≤ 1000) : Good (sto4 n room) (List.replicate (n - 2 - room) zeroB) := by
  have hp : (headN n room).pages = n - 2 - room := by unfold headN; simp only; omega
  have hsl : (fmtDk n (headN n room)).safe.length = n := by simp [fmtDk]
  have hok := fmtDk_ok (n := n) (h := headN n room) (by omega) (by omega)
  have hh : (headN n room).ok := ⟨by show 2 < _; omega, by show 0 < _; omega, by show room < _; omega, by show min (n - 2 - room) 1024 < _; omega⟩
  have g : Geo n (headN n room) := ⟨h1, by rw [hp]; omega, by rw [hp]; omega, Nat.zero_le _, by rw [hp]; show 2 + room + (n - 2 - room) ≤ n; omega⟩
  have s0 : (fmtDk n (headN n room)).safe.getD 0 [] = filledL (headL (headN n room)) := by
    unfold fmtDk
    exact getD_set_eq (by simp; omega)
  have s1 : (fmtDk n (headN n room)).safe.getD 1 [] = filledL [] := by
    unfold fmtDk
    simp only
    rw [getD_set_ne (by decide), getD_set_eq (by simp; omega)]
  refine ⟨⟨hh, hok, h1, by show 1 ≤ (headN n room).pages; rw [hp]; omega, by show (headN n room).pages ≤ 1024; rw [hp]; omega, by rw [show (sto4 n room).disk.safe.length = n from hsl]; exact g.fit, fun _ h => (by cases h), List.Pairwise.nil, List.Pairwise.nil, fun _ h => (by cases h)⟩, rfl, rfl, rfl, ⟨hok.safe, by show (fmtDk n (headN n room)).safe.length ≤ 2048; rw [hsl]; omega, by show Geo (fmtDk n (headN n room)).safe.length _; rw [hsl]; exact g, by show (2 : Nat) < 1000000; decide, by show 0 < (2 : Nat); decide, ?_, ?_⟩, rfl, .inl ?_, ?_, ?_⟩
  · have e0 : (sto4 n room).hd.seq = 2 := rfl
    rw [e0]
    show readHd ((fmtDk n (headN n room)).safe.getD 0 []) = _
    rw [s0]
    exact readHd_headL hh _
  · intro h' hr
    have e0 : (sto4 n room).hd.seq = 2 := rfl
    rw [e0] at hr
    have hr : readHd ((fmtDk n (headN n room)).safe.getD 1 []) = some h' := hr
    rw [s1, readHd_zero] at hr
    cases hr
  · have e0 : (sto4 n room).hd.seq = 2 := rfl
    rw [e0]
    show (fmtDk n (headN n room)).safe.getD 1 [] = zeroB
    rw [s1]; rfl
  · rw [List.length_replicate]; exact hp.symm
  · intro i hi
    have hi : i < n - 2 - room := by rw [← hp]; exact hi
    show (fmtDk n (headN n room)).safe.getD (2 + room + i) [] = _
    unfold fmtDk
    simp only
    rw [getD_set_ne (by omega), getD_set_ne (by omega), List.getD_eq_getElem?_getD, List.getD_eq_getElem?_getD, List.getElem?_replicate, List.getElem?_replicate, if_pos (by omega), if_pos hi]
section
variable {s : Sto} {P : List (List UInt8)}
end
end Go.Proofs.YtmchjbgobiagiaaGreat

namespace Go.Proofs.YtmchjbgobiagiaaGreat
set_option linter.unusedSimpArgs false
set_option linter.unusedVariables false
set_option maxRecDepth 100000
open Go Go.Ann Go.RowKit Go.WideShapes Go.Shelf
theorem bit_test (mask : Int) (k : Nat) (h0 : 0 ≤ mask) (h1 : mask ≤ 18446744073709551615) (hk : (k : Int) ≤ 9223372036854775807) :
    (bits BinOp.and IntKind.u64 (mask / 2 ^ min (IntKind.u64.wrap (bits BinOp.and IntKind.i64 (k : Int) 63)).toNat 64) 1 = 0) = (bitM mask k = false) := by
  have hm := Nat.mod_lt k (show 64 > 0 by decide)
  rw [and_63_i64 k hk, wrap_u64_id _ (by omega) (by omega), Int.toNat_natCast, Nat.min_eq_left (by omega)]
  have hd : 0 ≤ mask / 2 ^ (k % 64) := Int.ediv_nonneg h0 (Int.pow_nonneg (by decide))
  have hd2 : mask / 2 ^ (k % 64) ≤ mask := Int.ediv_le_self _ h0
  rw [and_one_u64 _ hd (by omega)]
  unfold bitM
  rw [decide_eq_false_iff_not]
  apply propext
  generalize mask / 2 ^ (k % 64) = z at *
  omega
theorem crashS_snoc (mask torn cut : Int) : ∀ (l : List (Int × List UInt8)) (x : Int × List UInt8) (i : Nat) (s : List (List UInt8)), crashS mask torn cut i (l ++ [x]) s = if bitM mask (i + l.length) = true then (crashS mask torn cut i l s).set x.1.toNat (if ((i + l.length : Nat) : Int) = torn then mixL x.2 ((crashS mask torn cut i l s).getD x.1.toNat []) (cutK cut) else x.2) else crashS mask torn cut i l s
  | [], x, i, s => by rw [List.nil_append, crashS, crashS]; rfl
  | a :: l, x, i, s => by
    rw [List.cons_append, crashS, crashS, crashS_snoc mask torn cut l x (i + 1), List.length_cons, show i + 1 + l.length = i + (l.length + 1) by omega]
theorem crash_256 {mask torn cut : Int} {l : List (Int × List UInt8)} {s : List (List UInt8)} (hs : ∀ x ∈ s, x.length = 256) (hl : ∀ x ∈ l, 0 ≤ x.1 ∧ x.1 < s.length ∧ x.2.length = 256) : ∀ x ∈ crashS mask torn cut 0 l s, x.length = 256 := (crash_after l 0 s hs hl).all hs hl
section
variable {W0 w : World} {F : Nat → Prop} {L : List Res} {I : List Inv} {g : Nat} {vb vl : Value} {m : Dk}
theorem crashN_ok (ok : m.ok) (mask torn cut : Int) : (crashN m mask torn cut).ok :=
  ⟨crash_256 ok.safe ok.late, fun _ h => (by cases h), ⟨by simp [crashN], by simp [crashN]⟩, by show 0 < (crashS mask torn cut 0 m.late m.safe).length; rw [crash_len]; exact ok.some, by show (crashS mask torn cut 0 m.late m.safe).length ≤ 2048; rw [crash_len]; exact ok.few, Nat.zero_le _⟩
theorem crash_ok (mask torn cut : Int) (h : St W0 w F (DkL g vb vl m ++ L) I) (ok : m.ok) (h0 : 0 ≤ mask) (h1 : mask ≤ 18446744073709551615) (ht : I64 torn) (hc : I64 cut) :
    Ret Tryz.prog 21 [.pointer (some ⟨g, 0, none⟩), .int .u64 mask, .int .i64 torn, .int .i64 cut] w fun u w' => u = .tuple #[] ∧ ∃ vl', St W0 w' F (DkL g vb vl' (crashN m mask torn cut) ++ L) I := by
  refine ent21 _ _ _ _ _ _ ?_
  obtain ⟨gb, cb, al, cl, rfl, rfl, hcl⟩ := dk_form h ok
  have r1 := h.rules 0 rfl
  simp (disch := first | omega | exact okFill_t rfl | exact okSize_t rfl | exact fun h => h | (simp only [World.size_alloc, World.size_drew, World.size_setCell, size_fill, bytesW]; omega)) only [go_sem, c21, c21S0, c21S1, c21S2, c21S3, c21S4, c21S5, c21S6, r1]
  refine W_loopU (fun k : Nat => [(18, .int .i64 k)]) (fun k w' => k ≤ m.late.length ∧ St W0 w' F (DkL g (.slice (some ⟨gb, 0, none⟩) m.safe.length cb) (.slice al m.late.length cl) { m with safe := crashS mask torn cut 0 (m.late.take k) m.safe } ++ L) I) (fun k => m.late.length - k) 0 rfl ⟨Nat.zero_le _, h⟩ ?_
  clear h
  rintro k w2 ⟨hk, h2⟩
  have hless := ok.less
  have hlen : (crashS mask torn cut 0 (m.late.take k) m.safe).length = m.safe.length := crash_len _ _ _
  have h256 : ∀ x ∈ crashS mask torn cut 0 (m.late.take k) m.safe, x.length = 256 := crash_256 ok.safe fun x hx => ok.late x (List.mem_of_mem_take hx)
  by_cases hlt : k < m.late.length
  · have hlt' : (k : Int) < m.late.length := by omega
    have hL : RdS w2 2 pendV (.slice al m.late.length cl) m.late := RdS.of_own' (h2.row 2 rfl) m.late rfl rfl
    obtain ⟨p, rfl⟩ := hL.ptr (by omega)
    have eL := hL.at pendV_len hlt
    obtain ⟨x0, x1, x2⟩ := ok.late _ (List.getElem_mem hlt)
    obtain ⟨n, hn⟩ := Int.eq_ofNat_of_zero_le x0
    have hnl : n < m.safe.length := by omega
    have hstep : crashS mask torn cut 0 (m.late.take (k + 1)) m.safe = if bitM mask k = true then (crashS mask torn cut 0 (m.late.take k) m.safe).set n (if (k : Int) = torn then mixL m.late[k].2 ((crashS mask torn cut 0 (m.late.take k) m.safe).getD n []) (cutK cut) else m.late[k].2) else crashS mask torn cut 0 (m.late.take k) m.safe := by
      rw [List.take_succ_eq_append_getElem hlt, crashS_snoc, List.length_take, Nat.min_eq_left (by omega), Nat.zero_add, hn]; rfl
    generalize crashS mask torn cut 0 (m.late.take k) m.safe = S at h2 hlen h256 hstep
    simp (disch := first | omega | exact okFill_t rfl | exact okSize_t rfl | exact fun h => h | (simp only [World.size_alloc, World.size_drew, World.size_setCell, size_fill, bytesW]; omega)) only [go_sem, c21, c21S0, c21S1, c21S2, c21S3, c21S4, c21L0, c21S5, c21S6, c21L0, hlt', eL, pendV]
    rw [bit_test mask k h0 h1 (by omega)]
    have hnl' : (n : Int) < m.safe.length := by omega
    have hkI : I64 ((k : Int) + 1) := by constructor <;> omega
    refine ⟨by omega, fun hb => ⟨hkI, k + 1, rfl, ⟨by omega, ?_⟩, by omega⟩, fun hb => ?_⟩
    · rw [hstep, hb]
      exact h2.alloc' _
    have hb : bitM mask k = true := by simpa using hb
    rw [hb, if_pos rfl] at hstep
    have hold : S[n]'(by omega) = S.getD n [] := by rw [List.getD_eq_getElem?_getD, List.getElem?_eq_getElem (by omega)]; rfl
    have hold256 : (S.getD n []).length = 256 := by rw [← hold]; exact h256 _ (List.getElem_mem _)
    rw [hn]
    have h3 := h2.box #[.int .i64 n, .string (ofL m.late[k].2)] 93
    generalize w2.heap.size = y at h3 ⊢
    generalize w2.alloc (.cells #[.int .i64 n, .string (ofL m.late[k].2)] 93) = w3 at h3 ⊢
    have h3 : St W0 w3 F (.blk y #[.int .i64 n, .string (ofL m.late[k].2)] 93 :: ([.blk g #[.slice (some ⟨gb, 0, none⟩) m.safe.length cb, .slice (some p) m.late.length cl, .int .i64 m.left, .bool m.gone, .string (ofL zeroB)] 91, .row (.slice (some ⟨gb, 0, none⟩) m.safe.length cb) 9 1 m.safe.length (S.flatMap strE), .row (.slice (some p) m.late.length cl) 93 2 m.late.length (m.late.flatMap pendV)] ++ L)) I := st_recast h3 (by simp only [DkL, hlen])
    have fin : ∀ (w5 : World) (D : List UInt8), St W0 w5 F (.blk y #[.int .i64 n, .string (ofL D)] 93 :: ([.blk g #[.slice (some ⟨gb, 0, none⟩) m.safe.length cb, .slice (some p) m.late.length cl, .int .i64 m.left, .bool m.gone, .string (ofL zeroB)] 91, .row (.slice (some ⟨gb, 0, none⟩) m.safe.length cb) 9 1 m.safe.length ((S.set n D).flatMap strE), .row (.slice (some p) m.late.length cl) 93 2 m.late.length (m.late.flatMap pendV)] ++ L)) I → (D = if (k : Int) = torn then mixL m.late[k].2 (S.getD n []) (cutK cut) else m.late[k].2) → k + 1 ≤ m.late.length ∧ St W0 w5 F (DkL g (.slice (some ⟨gb, 0, none⟩) m.safe.length cb) (.slice (some p) m.late.length cl) { m with safe := crashS mask torn cut 0 (m.late.take (k + 1)) m.safe } ++ L) I := fun w5 D h5 hD => by
      refine ⟨by omega, ?_⟩
      rw [hstep, ← hD]
      exact st_recast (h5.sub (List.sublist_cons_self _ _)) (by simp only [DkL, List.length_set, hlen])
    refine ⟨fun htorn => ?_, fun htorn => ?_⟩
    · refine c21draw0 (Same (fun k => k = g ∨ k = y) _) (Same.refl _ _) ?_
      have h4 := h3.drew
      have r4 := h4.rules 1 rfl
      have q4 := h4.rules 0 rfl
      have l4 := h4.low 0 rfl
      have ec := (h4.row 2 rfl).cellAt n (by omega)
      rw [strE_map, List.getElem?_map, List.getElem?_eq_getElem (by omega : n < S.length), hold] at ec
      have ec : w3.drew.cell? ⟨gb, n, none⟩ = some (.string (ofL (S.getD n []))) := ec
      generalize w3.drew = w4 at h4 r4 q4 l4 ec ⊢
      obtain ⟨K, hK⟩ : ∃ K : Nat, max 0 (min cut 256) = K := ⟨(max 0 (min cut 256)).toNat, by omega⟩
      have hKc : cutK cut = K := by unfold cutK; omega
      have hK256 : K ≤ 256 := by omega
      rw [hK]
      simp (disch := first | omega | exact okFill_t rfl | exact okSize_t rfl | exact fun h => h | (simp only [World.size_alloc, World.size_drew, World.size_setCell, size_fill, bytesW]; omega)) only [go_sem, c21, c21S0, c21S1, c21S2, c21S3, c21S4, c21L0, c21S5, c21S6, c21D0, r4, q4, hnl', ec]
      refine ⟨by omega, Same.refl _ _, by omega, Same.refl _ _, by omega, by rw [List.length_take, List.length_drop]; omega, ?_⟩
      have h5 := h4.set 0 rfl 1 (.string (ofL (m.late[k].2.take K ++ (S.getD n []).drop K)))
      refine c21draw1 (Same (fun k => k = g ∨ k = y) _) (Same.refl _ _) ?_
      have h6 := h5.drew
      generalize hw6 : (w4.setCell ⟨y, 1, none⟩ (.string (ofL (m.late[k].2.take K ++ (S.getD n []).drop K)))).drew = w6 at h6 ⊢
      have h6 : St W0 w6 F (.blk y #[.int .i64 n, .string (ofL (m.late[k].2.take K ++ (S.getD n []).drop K))] 93 :: ([.blk g #[.slice (some ⟨gb, 0, none⟩) m.safe.length cb, .slice (some p) m.late.length cl, .int .i64 m.left, .bool m.gone, .string (ofL zeroB)] 91, .row (.slice (some ⟨gb, 0, none⟩) m.safe.length cb) 9 1 m.safe.length (S.flatMap strE), .row (.slice (some p) m.late.length cl) 93 2 m.late.length (m.late.flatMap pendV)] ++ L)) I := h6
      have r6 := h6.rules 1 rfl
      have q6 := h6.rules 0 rfl
      have ec6 := (h6.row 2 rfl).cellAt n (by omega)
      rw [strE_map, List.getElem?_map, List.getElem?_eq_getElem (by omega : n < S.length)] at ec6
      have ef6 := (h6.row 2 rfl).frozenAt n
      clear r4 q4 l4 ec
      simp (disch := first | omega | exact okFill_t rfl | exact okSize_t rfl | exact fun h => h | (simp only [World.size_alloc, World.size_drew, World.size_setCell, size_fill, bytesW]; omega)) only [go_sem, c21, c21S0, c21S1, c21S2, c21S3, c21S4, c21L0, c21S5, c21S6, c21D1, r6, q6, hnl', ec6, ef6]
      refine ⟨Same.refl _ _, by omega, ⟨_, rfl⟩, hkI, k + 1, rfl, fin _ (m.late[k].2.take K ++ (S.getD n []).drop K) (st_recast (h6.put 2 rfl n (.string (ofL (m.late[k].2.take K ++ (S.getD n []).drop K)))) (by rw [← strE_set]; rfl)) (by rw [if_pos htorn, hKc]; rfl), by omega⟩
    · refine c21draw1 (Same (fun k => k = g ∨ k = y) _) (Same.refl _ _) ?_
      have h4 := h3.drew
      have r4 := h4.rules 1 rfl
      have q4 := h4.rules 0 rfl
      have l4 := h4.low 0 rfl
      generalize w3.drew = w4 at h4 r4 q4 l4 ⊢
      have ec := (h4.row 2 rfl).cellAt n (by omega)
      rw [strE_map, List.getElem?_map, List.getElem?_eq_getElem (by omega : n < S.length)] at ec
      have ef := (h4.row 2 rfl).frozenAt n
      simp (disch := first | omega | exact okFill_t rfl | exact okSize_t rfl | exact fun h => h | (simp only [World.size_alloc, World.size_drew, World.size_setCell, size_fill, bytesW]; omega)) only [go_sem, c21, c21S0, c21S1, c21S2, c21S3, c21S4, c21L0, c21S5, c21S6, c21D1, r4, q4, hnl', ec, ef]
      refine ⟨Same.refl _ _, by omega, ⟨_, rfl⟩, hkI, k + 1, rfl, fin _ m.late[k].2 (st_recast (h4.put 2 rfl n (.string (ofL m.late[k].2))) (by rw [← strE_set]; rfl)) (by rw [if_neg htorn]), by omega⟩
  · have hlt' : ¬ (k : Int) < m.late.length := by omega
    obtain rfl : k = m.late.length := by omega
    rw [List.take_length] at h2
    have r2 := h2.rules 0 rfl
    simp (disch := first | omega | exact okFill_t rfl | exact okSize_t rfl | exact fun h => h | (simp only [World.size_alloc, World.size_drew, World.size_setCell, size_fill, bytesW]; omega)) only [go_sem, c21, c21S0, c21S1, c21S2, c21S3, c21S4, c21L0, c21S5, c21S6, c21L0, hlt', r2]
    have s3 := ((h2.set 0 rfl 1 (.slice none 0 0)).set 0 rfl 2 (.int .i64 (-1))).set 0 rfl 3 (.bool false)
    refine ⟨.slice none 0 0, ?_⟩
    have s4 := s3.sub (L' := [.blk g #[.slice (some ⟨gb, 0, none⟩) m.safe.length cb, .slice none 0 0, .int .i64 (-1), .bool false, .string (ofL zeroB)] 91, .row (.slice (some ⟨gb, 0, none⟩) m.safe.length cb) 9 1 (crashS mask torn cut 0 m.late m.safe).length ((crashS mask torn cut 0 m.late m.safe).flatMap strE)] ++ L) (by
      refine List.Sublist.cons_cons _ (List.Sublist.cons_cons _ ?_)
      exact List.sublist_cons_self _ _)
    exact St.front (A := [.row (.slice none 0 0) 93 2 0 []]) (D := [.blk g #[.slice (some ⟨gb, 0, none⟩) m.safe.length cb, .slice none 0 0, .int .i64 (-1), .bool false, .string (ofL zeroB)] 91, .row (.slice (some ⟨gb, 0, none⟩) m.safe.length cb) 9 1 (crashS mask torn cut 0 m.late m.safe).length ((crashS mask torn cut 0 m.late m.safe).flatMap strE)]) (L := L) (s4.nilRow 93 2)
end
end Go.Proofs.YtmchjbgobiagiaaGreat

namespace Go.Proofs.YtmchjbgobiagiaaGreat
set_option linter.unusedSimpArgs false
set_option linter.unusedVariables false
set_option maxRecDepth 100000
open Go Go.Ann Go.RowKit Go.WideShapes Go.Shelf
structure Open (s : Sto) (P : List (List UInt8)) : Prop where
  ok : s.ok
  dead : s.dead = false
  gone : s.disk.gone = false
  late : s.disk.late = []
  top : Top s.disk.safe s.hd
  used : s.hd.used = 0
  home : Home s.disk.safe s.hd P
  dirty : s.dirty = []
theorem Open.pgs {s : Sto} {P : List (List UInt8)} (g : Open s P) : pgs s = P := by
  refine pgs_eq g.home.1 fun i hi => ?_
  have hi : i < s.hd.pages := by rw [← g.home.1]; exact hi
  rw [(nowP_eq g.ok g.dead g.gone (by omega) (by omega)).2, g.late, g.dirty]
  have e : (homeN s i).toNat = 2 + s.hd.room + i := by unfold homeN; omega
  rw [e]
  exact g.home.2 i hi
theorem sto_ok {h : Hd} {m : Dk} (t : Top m.safe h) (ok : m.ok) : (⟨h, [], 0, false, m⟩ : Sto).ok :=
  ⟨t.ok, ok, t.geo.room, t.geo.pages, t.geo.few, t.geo.fit, fun _ h => (by cases h), List.Pairwise.nil, List.Pairwise.nil, fun _ h => (by cases h)⟩
section
variable {W0 w : World} {F : Nat → Prop} {L : List Res} {I : List Inv} {g : Nat} {vb vl : Value} {m : Dk} {P : List (List UInt8)}
theorem openClean_ok {hd : Hd} (h : St W0 w F (DkL g vb vl m ++ L) I) (ok : m.ok) (hg : m.gone = false) (hl : m.late = []) (t : Top m.safe hd) (h0 : hd.used = 0) (hm : Home m.safe hd P) :
    Ret Tryz.prog 22 [.pointer (some ⟨g, 0, none⟩)] w fun u w' => ∃ b mb s, u = .tuple #[.pointer (some ⟨b, 0, none⟩), .int .i64 0] ∧ Open s P ∧ s.disk = m ∧ St W0 w' F (StoL b mb g vb vl s ++ L) I := by
  have hfit := t.geo.fit
  refine Ret.mono (open0_ok hd h ok hg (by omega) (t.newest rfl hl) h0) ?_
  rintro u w2 ⟨b, mb, rfl, s2⟩
  exact ⟨b, mb, _, rfl, ⟨sto_ok t ok, rfl, hg, hl, t, h0, hm, rfl⟩, rfl, s2⟩
end
end Go.Proofs.YtmchjbgobiagiaaGreat

namespace Go.Proofs.YtmchjbgobiagiaaGreat
set_option linter.unusedSimpArgs false
set_option linter.unusedVariables false
set_option maxRecDepth 100000
open Go Go.Ann Go.RowKit Go.WideShapes Go.Shelf
structure Safe (e : En) (S : List (List UInt8)) : Prop where
  late : e.m.late = []
  top : Top e.m.safe e.hd
  used : e.hd.used = 0
  base : Base e.m.safe e.hd
  home : Home e.m.safe e.hd S
  left : e.m.left = -1
  seq : e.hd.seq ≤ 1000
  room : 50 ≤ e.hd.room
  few : e.hd.pages ≤ 40
section
variable {W0 w : World} {F : Nat → Prop} {L : List Res} {I : List Inv} {P S : List (List UInt8)} {e : En}
theorem pcommit_ok (h : Pgr e P W0 w F L I) (hs : Safe e S) (hq : e.hd.seq ≤ 900) :
    Ret Tryz.prog 13 [.pointer (some ⟨e.p, 0, none⟩)] w fun u w' => u = .int .i64 0 ∧ ∃ e' : En, e'.p = e.p ∧ e'.g = e.g ∧ e'.hd.pages = e.hd.pages ∧ Safe e' P ∧ Pgr e' P W0 w' F L I := by
  have r1 := h.blk.rules
  refine ent13 _ _ _ ?_
  simp (disch := first | omega | exact okFill_t rfl | exact okSize_t rfl | exact fun h => h | (simp only [World.size_alloc, World.size_drew, World.size_setCell, size_fill, bytesW]; omega)) only [go_sem, c13, c13S0, c13S1, c13S2, c13S3]
  refine Ret.mono (made_ok h) ?_
  rintro _ _ ⟨rfl, rfl⟩
  simp (disch := first | omega | exact okFill_t rfl | exact okSize_t rfl | exact fun h => h | (simp only [World.size_alloc, World.size_drew, World.size_setCell, size_fill, bytesW]; omega)) only [go_sem, c13, c13S0, c13S1, c13S2, c13S3, r1]
  obtain ⟨rv, l, s, hst, hv, e1, e2, e3⟩ := h
  have g : Good s S := ⟨hv.ok, hv.dead, hv.gone, by rw [e2]; exact hs.late, by rw [e1, e2]; exact hs.top, by rw [e1]; exact hs.used, by rw [e1, e2]; exact hs.base, by rw [e1, e2]; exact hs.home⟩
  have hseq := hs.seq
  refine Ret.mono (scommit_ok (St.mid hst) hv.ok (by rw [e1]; omega) (by rw [e2, hs.late]; decide)) ?_
  rintro _ w2 ⟨c, s', vl', rfl, hc, s2⟩
  have dl := dirty_len hv.ok
  have hfew := hs.few
  have hroom := hs.room
  rcases g.commit (by rw [e2]; exact hs.left) (by rw [e1]; omega) hc with ⟨rfl, _, g', d', left', q1, q2, q3, _⟩ | ⟨_, _, hbad, _⟩
  case inr =>
    exfalso
    rw [e1] at dl hbad
    unfold blocksN hdsN at hbad
    omega
  simp (disch := first | omega | exact okFill_t rfl | exact okSize_t rfl | exact fun h => h | (simp only [World.size_alloc, World.size_drew, World.size_setCell, size_fill, bytesW]; omega)) only [go_sem, c13, c13S0, c13S1, c13S2, c13S3]
  have p' := g'.pgs0 d'
  have hnow : ∀ i : Int, 0 ≤ i → i < s.hd.pages → nowP s' i = nowP s i := fun i h0 h1 => by
    obtain ⟨n, rfl⟩ := Int.eq_ofNat_of_zero_le h0
    have a1 := pgs_get (s := s') (i := n) (by rw [pgs_len, q1]; omega)
    have a2 := pgs_get (s := s) (i := n) (by rw [pgs_len]; omega)
    rw [← a1, ← a2]
    simp only [p']
  refine ⟨{ e with vl := vl', hd := s'.hd, m := s'.disk }, rfl, rfl, by rw [q1, e1], ?_, ?_⟩
  · rw [← e3]
    exact ⟨g'.late, g'.top, g'.used, g'.base, g'.home, left', by show s'.hd.seq ≤ 1000; rw [e1] at q3; omega, by show 50 ≤ s'.hd.room; rw [q2, e1]; exact hroom, by show s'.hd.pages ≤ 40; rw [q1, e1]; exact hfew⟩
  · exact ⟨rv, l, s', St.unmid s2, ⟨g'.ok, g'.dead, g'.gone, by rw [q1]; exact hv.few, hv.nd, fun x hx => by
      obtain ⟨b0, b1, b2⟩ := hv.kept x hx
      exact ⟨b0, by rw [q1]; exact b1, by rw [hnow _ b0 b1]; exact b2⟩⟩, rfl, rfl, by rw [p', e3]⟩
end
end Go.Proofs.YtmchjbgobiagiaaGreat

namespace Go.Proofs.YtmchjbgobiagiaaGreat
set_option linter.unusedSimpArgs false
set_option linter.unusedVariables false
set_option maxRecDepth 100000
open Go Go.Ann Go.RowKit Go.WideShapes Go.Shelf
def runW (P : List (List UInt8)) (l : List ActP) : List (List UInt8) := l.foldl (fun P x => if x.Kind < 6 ∧ x.Data.length ≤ 2000 then actP P x else P) P
def runN (P : List (List UInt8)) (l : List ActP) : List (List UInt8) := l.foldl (fun P x => if 0 ≤ x.Kind ∧ x.Kind < 6 ∧ x.Data.length ≤ 2000 then actP P x else P) P
theorem runW_snoc (P : List (List UInt8)) (l : List ActP) (x : ActP) : runW P (l ++ [x]) = if x.Kind < 6 ∧ x.Data.length ≤ 2000 then actP (runW P l) x else runW P l := by unfold runW; rw [List.foldl_append]; rfl
theorem runN_snoc (P : List (List UInt8)) (l : List ActP) (x : ActP) : runN P (l ++ [x]) = if 0 ≤ x.Kind ∧ x.Kind < 6 ∧ x.Data.length ≤ 2000 then actP (runN P l) x else runN P l := by unfold runN; rw [List.foldl_append]; rfl
theorem safe_new {e : En} (h1 : e.hd = newHd 12) (h2 : e.m = newDkP 12) : Safe e (List.replicate 12 zeroB) := by
  have g := sto4_good (n := 64) (room := 50) (by decide) (by decide) (by decide)
  refine ⟨by rw [h2]; exact g.late, by rw [h1, h2]; exact g.top, by rw [h1]; exact g.used, by rw [h1, h2]; exact g.base, by rw [h1, h2]; exact g.home, by rw [h2]; rfl, by rw [h1]; decide, by rw [h1]; decide, by rw [h1]; decide⟩
section
variable {va vn : Value} {was now : List ActP}
theorem safe_ok (w : World) (ha : RdS w 4 ActP.enc va was) (hn : RdS w 4 ActP.enc vn now) (hal : (was.length : Int) ≤ 9223372036854775807) (hnl : (now.length : Int) ≤ 9223372036854775807) (wa : ∀ x ∈ was, x.wf) (wn : ∀ x ∈ now, x.wf) :
    Ret Tryz.prog 4 [va, vn] w fun u w' => u = .bool true ∧ Below w.heap.size w w' := by
  obtain ⟨aa, ca, rfl, _⟩ := ha.form
  obtain ⟨an, cn, rfl, _⟩ := hn.form
  refine ent4 _ _ _ _ ?_
  simp (disch := first | omega | exact okFill_t rfl | exact okSize_t rfl | exact fun h => h | (simp only [World.size_alloc, World.size_drew, World.size_setCell, size_fill, bytesW]; omega)) only [go_sem, c4, c4S0, c4S1, c4S2, c4L0, c4S3, c4S4, c4S5, c4L1, c4S6, c4S7, c4S8, c4S9, c4L2, c4S10, c4S11, c4S12, c4S13, c4S14, c4S15, c4S16, c4S17, c4S18, c4S19, c4S20]
  refine Ret.mono (begun_ok (n := 12) (((St.start (W0 := w)).old hn (by decide)).old ha (by decide)) (by decide) (by decide)) ?_
  rintro _ w2 ⟨e, rfl, e1, e2, g2⟩
  have sf := safe_new e1 e2
  have hsq : e.hd.seq ≤ 900 := by rw [e1]; decide
  have l12 : (List.replicate 12 zeroB).length = 12 := List.length_replicate
  have hpg : e.hd.pages = 12 := by rw [← g2.len.1, l12]
  simp (disch := first | omega | exact okFill_t rfl | exact okSize_t rfl | exact fun h => h | (simp only [World.size_alloc, World.size_drew, World.size_setCell, size_fill, bytesW]; omega)) only [go_sem, c4, c4S0, c4S1, c4S2, c4L0, c4S3, c4S4, c4S5, c4L1, c4S6, c4S7, c4S8, c4S9, c4L2, c4S10, c4S11, c4S12, c4S13, c4S14, c4S15, c4S16, c4S17, c4S18, c4S19, c4S20]
  refine Ret.mono (pformat_ok g2 (by rw [l12]; decide)) ?_
  rintro _ w3 ⟨rfl, g3⟩
  obtain ⟨A, s3, back⟩ := g3.lift
  simp (disch := first | omega | exact okFill_t rfl | exact okSize_t rfl | exact fun h => h | (simp only [World.size_alloc, World.size_drew, World.size_setCell, size_fill, bytesW]; omega)) only [go_sem, c4, c4S0, c4S1, c4S2, c4L0, c4S3, c4S4, c4S5, c4L1, c4S6, c4S7, c4S8, c4S9, c4L2, c4S10, c4S11, c4S12, c4S13, c4S14, c4S15, c4S16, c4S17, c4S18, c4S19, c4S20]
  refine Ret.mono (rnew_ok 12 s3 (by decide)) ?_
  rintro _ w4 ⟨a4, m4, rfl, s4⟩
  have p4 := g2.pages (by rw [l12]; decide)
  simp (disch := first | omega | exact okFill_t rfl | exact okSize_t rfl | exact fun h => h | (simp only [World.size_alloc, World.size_drew, World.size_setCell, size_fill, bytesW]; omega)) only [go_sem, c4, c4S0, c4S1, c4S2, c4L0, c4S3, c4S4, c4S5, c4L1, c4S6, c4S7, c4S8, c4S9, c4L2, c4S10, c4S11, c4S12, c4S13, c4S14, c4S15, c4S16, c4S17, c4S18, c4S19, c4S20]
  refine Ret.mono (rformat_ok s4 p4) ?_
  rintro _ w5 ⟨v5, rfl, s5⟩
  obtain ⟨a5, m5, rfl, _⟩ := (s5.rd 0 rfl).form
  simp (disch := first | omega | exact okFill_t rfl | exact okSize_t rfl | exact fun h => h | (simp only [World.size_alloc, World.size_drew, World.size_setCell, size_fill, bytesW]; omega)) only [go_sem, c4, c4S0, c4S1, c4S2, c4L0, c4S3, c4S4, c4S5, c4L1, c4S6, c4S7, c4S8, c4S9, c4L2, c4S10, c4S11, c4S12, c4S13, c4S14, c4S15, c4S16, c4S17, c4S19, c4S20]
  obtain ⟨P0, hP0⟩ : ∃ P0, P0 = fmtP (List.replicate 12 zeroB) := ⟨_, rfl⟩
  rw [← hP0] at s5 back g3
  have s6 := s5.box #[.slice a5 P0.length m5, .slice a4 12 m4] 51
  have g6 := back _ [.blk w5.heap.size #[.slice a5 P0.length m5, .slice a4 12 m4] 51] _ s6
  rw [← hP0]
  generalize w5.alloc (.cells #[.slice a5 P0.length m5, .slice a4 12 m4] 51) = w6 at g6 ⊢
  generalize w5.heap.size = rb at g6 ⊢
  clear s6 s5 s4 s3 back g3 g2
  simp (disch := first | omega | exact okFill_t rfl | exact okSize_t rfl | exact fun h => h | (simp only [World.size_alloc, World.size_drew, World.size_setCell, size_fill, bytesW]; omega)) only [go_sem, c4, c4S0, c4S1, c4S2, c4S3, c4S4, c4S5, c4L1, c4S6, c4S7, c4S8, c4S9, c4L2, c4S10, c4S11, c4S12, c4S13, c4S14, c4S15, c4S16, c4S18, c4S19, c4S20]
  refine W_loopU (fun k : Nat => [(10, .int .i64 k)]) (fun k w' => k ≤ was.length ∧ k ≤ 30 ∧ ∃ v : Value, Pgr e (runW P0 (was.take k)) w w' (fun _ => False) [.blk rb #[v, .slice a4 12 m4] 51] [.rd 1 strE v (runW P0 (was.take k)), .rd 4 ActP.enc (.slice aa was.length ca) was, .rd 4 ActP.enc (.slice an now.length cn) now]) (fun k => 30 - k) 0 rfl ⟨Nat.zero_le _, Nat.zero_le _, _, g6⟩ ?_
  clear g6
  rintro k w7 ⟨hk1, hk2, v7, g7⟩
  have l7 := g7.len.1
  rw [hpg] at l7
  by_cases hlt : k < was.length ∧ k < 30
  · obtain ⟨h1, h2⟩ := hlt
    have h1' : (k : Int) < was.length := by omega
    have h2' : (k : Int) < 30 := by omega
    obtain ⟨A, s7, _⟩ := g7.lift
    have hR := s7.rd 1 rfl
    obtain ⟨q, rfl⟩ := hR.ptr (by omega)
    have d0 := hR.elt ActP.len (by decide) h1
    have hnext : was.take (k + 1) = was.take k ++ [was[k]] := List.take_succ_eq_append_getElem h1
    have hxk := wa _ (List.getElem_mem h1)
    have dW := hR.at ActP.len h1
    have skip : ¬ (was[k].Kind < 6 ∧ was[k].Data.length ≤ 2000) → runW P0 (was.take (k + 1)) = runW P0 (was.take k) := fun h => by rw [hnext, runW_snoc, if_neg h]
    by_cases c6 : was[k].Kind < 6
    · by_cases c20 : (was[k].Data.length : Int) ≤ 2000
      · simp (disch := first | omega | exact okFill_t rfl | exact okSize_t rfl | exact fun h => h | (simp only [World.size_alloc, World.size_drew, World.size_setCell, size_fill, bytesW]; omega)) only [go_sem, c4, c4S0, c4S1, c4S2, c4L0, c4S3, c4S4, c4S5, c4L1, c4S6, c4S7, c4S8, c4S9, c4L2, c4S10, c4S11, c4S12, c4S13, c4S14, c4S15, c4S16, c4S17, c4S18, c4S19, c4S20, c4L0, h1', h2', d0, dW, ActP.enc, c6, c20]
        refine ⟨by omega, by omega, by omega, Ret.mono (does_ok was[k] hxk c6 g7 (by omega)) ?_⟩
        rintro _ w8 ⟨v8, g8⟩
        simp (disch := first | omega | exact okFill_t rfl | exact okSize_t rfl | exact fun h => h | (simp only [World.size_alloc, World.size_drew, World.size_setCell, size_fill, bytesW]; omega)) only [go_sem, c4, c4S0, c4S1, c4S2, c4L0, c4S3, c4S4, c4S5, c4L1, c4S6, c4S7, c4S8, c4S9, c4L2, c4S10, c4S11, c4S12, c4S13, c4S14, c4S15, c4S16, c4S17, c4S18, c4S19, c4S20]
        have ea : actP (runW P0 (was.take k)) was[k] = runW P0 (was.take (k + 1)) := by rw [hnext, runW_snoc, if_pos ⟨c6, by omega⟩]
        rw [ea] at g8
        exact ⟨by constructor <;> omega, k + 1, rfl, ⟨by omega, by omega, v8, g8⟩, by omega⟩
      · simp (disch := first | omega | exact okFill_t rfl | exact okSize_t rfl | exact fun h => h | (simp only [World.size_alloc, World.size_drew, World.size_setCell, size_fill, bytesW]; omega)) only [go_sem, c4, c4S0, c4S1, c4S2, c4L0, c4S3, c4S4, c4S5, c4L1, c4S6, c4S7, c4S8, c4S9, c4L2, c4S10, c4S11, c4S12, c4S13, c4S14, c4S15, c4S16, c4S17, c4S18, c4S19, c4S20, c4L0, h1', h2', d0, ActP.enc, c6, c20]
        refine ⟨by omega, by omega, by constructor <;> omega, k + 1, rfl, ⟨by omega, by omega, v7, ?_⟩, by omega⟩
        rw [skip (fun h => c20 (by omega))]; exact g7
    · simp (disch := first | omega | exact okFill_t rfl | exact okSize_t rfl | exact fun h => h | (simp only [World.size_alloc, World.size_drew, World.size_setCell, size_fill, bytesW]; omega)) only [go_sem, c4, c4S0, c4S1, c4S2, c4L0, c4S3, c4S4, c4S5, c4L1, c4S6, c4S7, c4S8, c4S9, c4L2, c4S10, c4S11, c4S12, c4S13, c4S14, c4S15, c4S16, c4S17, c4S18, c4S19, c4S20, c4L0, h1', h2', d0, ActP.enc, c6]
      refine ⟨by omega, by constructor <;> omega, k + 1, rfl, ⟨by omega, by omega, v7, ?_⟩, by omega⟩
      rw [skip (fun h => c6 h.1)]; exact g7
  have rest : W Tryz.prog (c4S17 ()) [(1, .slice an now.length cn), (5, .pointer (some ⟨e.g, 0, none⟩)), (7, .pointer (some ⟨e.p, 0, none⟩)), (8, .pointer (some ⟨rb, 0, none⟩))] w7 (finQ Tryz.prog [.tmp 4] fun u w' => u = .bool true ∧ Below w.heap.size w w') := by
    generalize runW P0 (was.take k) = P at g7 l7
    clear hlt hk1 hk2
    simp (disch := first | omega | exact okFill_t rfl | exact okSize_t rfl | exact fun h => h | (simp only [World.size_alloc, World.size_drew, World.size_setCell, size_fill, bytesW]; omega)) only [go_sem, c4, c4S0, c4S1, c4S2, c4L0, c4S3, c4S4, c4S5, c4L1, c4S6, c4S7, c4S8, c4S9, c4L2, c4S10, c4S11, c4S12, c4S13, c4S14, c4S15, c4S16, c4S17, c4S18, c4S19, c4S20]
    refine Ret.mono (pcommit_ok g7 sf hsq) ?_
    rintro _ w8 ⟨rfl, e', ep, eg, epg, sf', g8⟩
    obtain ⟨A, s8, _⟩ := g8.lift
    have r8 := s8.rules 0 rfl
    obtain ⟨a8, m8, hv, _⟩ := (s8.rd 0 rfl).form
    subst hv
    simp (disch := first | omega | exact okFill_t rfl | exact okSize_t rfl | exact fun h => h | (simp only [World.size_alloc, World.size_drew, World.size_setCell, size_fill, bytesW]; omega)) only [go_sem, c4, c4S0, c4S1, c4S2, c4L0, c4S3, c4S4, c4S5, c4S6, c4S7, c4S8, c4S9, c4L2, c4S10, c4S11, c4S12, c4S13, c4S14, c4S15, c4S16, c4S17, c4S18, c4S19, c4S20, r8]
    have g8' : Pgr e' P w w8 (fun _ => False) [.blk rb #[.slice a8 P.length m8, .slice a4 12 m4] 51] [.rd 1 strE (.slice a8 P.length m8) P, .rd 1 strE (.slice a8 P.length m8) P, .rd 4 ActP.enc (.slice an now.length cn) now] := by
      obtain ⟨A', s', back'⟩ := g8.lift
      refine back' _ _ _ (s'.inv_sub fun a ha => ?_)
      simp only [List.mem_cons, List.not_mem_nil, or_false] at ha ⊢
      rcases ha with rfl | rfl | rfl <;> simp
    clear s8 r8 g8 g7
    refine W_loopU (fun k : Nat => [(12, .int .i64 k)]) (fun k w' => k ≤ now.length ∧ k ≤ 30 ∧ ∃ v : Value, Pgr e' (runN P (now.take k)) w w' (fun _ => False) [.blk rb #[v, .slice a4 12 m4] 51] [.rd 1 strE v (runN P (now.take k)), .rd 1 strE (.slice a8 P.length m8) P, .rd 4 ActP.enc (.slice an now.length cn) now]) (fun k => 30 - k) 0 rfl ⟨Nat.zero_le _, Nat.zero_le _, _, g8'⟩ ?_
    clear g8'
    rintro j w9 ⟨hj1, hj2, v9, g9⟩
    have l9 := g9.len.1
    rw [epg, hpg] at l9
    by_cases hlt : j < now.length ∧ j < 30
    · obtain ⟨h1, h2⟩ := hlt
      have h1' : (j : Int) < now.length := by omega
      have h2' : (j : Int) < 30 := by omega
      obtain ⟨A9, s9, _⟩ := g9.lift
      have hR := s9.rd 2 rfl
      obtain ⟨q, rfl⟩ := hR.ptr (by omega)
      have d0 := hR.elt ActP.len (by decide) h1
      have dW := hR.at ActP.len h1
      have hnext : now.take (j + 1) = now.take j ++ [now[j]] := List.take_succ_eq_append_getElem h1
      have hxk := wn _ (List.getElem_mem h1)
      have skip : ¬ (0 ≤ now[j].Kind ∧ now[j].Kind < 6 ∧ now[j].Data.length ≤ 2000) → runN P (now.take (j + 1)) = runN P (now.take j) := fun h => by rw [hnext, runN_snoc, if_neg h]
      by_cases c0 : 0 ≤ now[j].Kind
      · by_cases c6 : now[j].Kind < 6
        · by_cases c20 : (now[j].Data.length : Int) ≤ 2000
          · simp (disch := first | omega | exact okFill_t rfl | exact okSize_t rfl | exact fun h => h | (simp only [World.size_alloc, World.size_drew, World.size_setCell, size_fill, bytesW]; omega)) only [go_sem, c4, c4S0, c4S1, c4S2, c4L0, c4S3, c4S4, c4S5, c4L1, c4S6, c4S7, c4S8, c4S9, c4L2, c4S10, c4S11, c4S12, c4S13, c4S14, c4S15, c4S16, c4S17, c4S18, c4S19, c4S20, c4L1, h1', h2', d0, dW, ActP.enc, c0, c6, c20]
            rw [← ep]
            refine ⟨by omega, by omega, by omega, by omega, Ret.mono (does_ok now[j] hxk c6 g9 (by omega)) ?_⟩
            rintro _ w10 ⟨v10, g10⟩
            simp (disch := first | omega | exact okFill_t rfl | exact okSize_t rfl | exact fun h => h | (simp only [World.size_alloc, World.size_drew, World.size_setCell, size_fill, bytesW]; omega)) only [go_sem, c4, c4S0, c4S1, c4S2, c4L0, c4S3, c4S4, c4S5, c4L1, c4S6, c4S7, c4S8, c4S9, c4L2, c4S10, c4S11, c4S12, c4S13, c4S14, c4S15, c4S16, c4S17, c4S18, c4S19, c4S20]
            have ea : actP (runN P (now.take j)) now[j] = runN P (now.take (j + 1)) := by rw [hnext, runN_snoc, if_pos ⟨c0, c6, by omega⟩]
            rw [ea] at g10
            exact ⟨by constructor <;> omega, j + 1, rfl, ⟨by omega, by omega, v10, g10⟩, by omega⟩
          · simp (disch := first | omega | exact okFill_t rfl | exact okSize_t rfl | exact fun h => h | (simp only [World.size_alloc, World.size_drew, World.size_setCell, size_fill, bytesW]; omega)) only [go_sem, c4, c4S0, c4S1, c4S2, c4L0, c4S3, c4S4, c4S5, c4L1, c4S6, c4S7, c4S8, c4S9, c4L2, c4S10, c4S11, c4S12, c4S13, c4S14, c4S15, c4S16, c4S17, c4S18, c4S19, c4S20, c4L1, h1', h2', d0, ActP.enc, c0, c6, c20]
            refine ⟨by omega, by omega, by omega, by constructor <;> omega, j + 1, rfl, ⟨by omega, by omega, v9, ?_⟩, by omega⟩
            rw [skip (fun h => c20 (by omega))]; exact g9
        · simp (disch := first | omega | exact okFill_t rfl | exact okSize_t rfl | exact fun h => h | (simp only [World.size_alloc, World.size_drew, World.size_setCell, size_fill, bytesW]; omega)) only [go_sem, c4, c4S0, c4S1, c4S2, c4L0, c4S3, c4S4, c4S5, c4L1, c4S6, c4S7, c4S8, c4S9, c4L2, c4S10, c4S11, c4S12, c4S13, c4S14, c4S15, c4S16, c4S17, c4S18, c4S19, c4S20, c4L1, h1', h2', d0, ActP.enc, c0, c6]
          refine ⟨by omega, by omega, by constructor <;> omega, j + 1, rfl, ⟨by omega, by omega, v9, ?_⟩, by omega⟩
          rw [skip (fun h => c6 h.2.1)]; exact g9
      · simp (disch := first | omega | exact okFill_t rfl | exact okSize_t rfl | exact fun h => h | (simp only [World.size_alloc, World.size_drew, World.size_setCell, size_fill, bytesW]; omega)) only [go_sem, c4, c4S0, c4S1, c4S2, c4L0, c4S3, c4S4, c4S5, c4L1, c4S6, c4S7, c4S8, c4S9, c4L2, c4S10, c4S11, c4S12, c4S13, c4S14, c4S15, c4S16, c4S17, c4S18, c4S19, c4S20, c4L1, h1', h2', d0, ActP.enc, c0]
        refine ⟨by omega, by constructor <;> omega, j + 1, rfl, ⟨by omega, by omega, v9, ?_⟩, by omega⟩
        rw [skip (fun h => c0 h.1)]; exact g9
    have rest : W Tryz.prog (c4S15 ()) [(5, .pointer (some ⟨e.g, 0, none⟩)), (11, .slice a8 P.length m8)] w9 (finQ Tryz.prog [.tmp 4] fun u w' => u = .bool true ∧ Below w.heap.size w w') := by
      obtain ⟨rv, l, t, hst, hv, t1, t2, t3⟩ := g9
      rw [← eg]
      clear l9 hlt hj1 hj2 t3
      generalize runN P (now.take j) = Q9 at hst
      have hd9 := sto_disk (St.mid hst)
      have okd := hv.ok.disk
      have ec : crashN t.disk 18446744073709551615 (-1) 0 = { safe := e'.m.safe, late := [], left := -1, gone := false } := by
        unfold crashN
        rw [t2, sf'.late]
        rfl
      simp (disch := first | omega | exact okFill_t rfl | exact okSize_t rfl | exact fun h => h | (simp only [World.size_alloc, World.size_drew, World.size_setCell, size_fill, bytesW]; omega)) only [go_sem, c4, c4S0, c4S1, c4S2, c4L0, c4S3, c4S4, c4S5, c4L1, c4S6, c4S7, c4S8, c4S9, c4L2, c4S10, c4S11, c4S12, c4S13, c4S14, c4S15, c4S16, c4S17, c4S18, c4S19, c4S20]
      refine Ret.mono (crash_ok 18446744073709551615 (-1) 0 hd9 okd (by decide) (by decide) ⟨by decide, by decide⟩ ⟨by decide, by decide⟩) ?_
      rintro _ w10 ⟨rfl, vl10, s10⟩
      have okc := crashN_ok okd 18446744073709551615 (-1) 0
      rw [ec] at s10 okc
      simp (disch := first | omega | exact okFill_t rfl | exact okSize_t rfl | exact fun h => h | (simp only [World.size_alloc, World.size_drew, World.size_setCell, size_fill, bytesW]; omega)) only [go_sem, c4, c4S0, c4S1, c4S2, c4L0, c4S3, c4S4, c4S5, c4L1, c4S6, c4S7, c4S8, c4S9, c4L2, c4S10, c4S11, c4S12, c4S13, c4S14, c4S15, c4S16, c4S17, c4S18, c4S19, c4S20]
      refine Ret.mono (openClean_ok (hd := e'.hd) (P := P) s10 okc rfl rfl sf'.top sf'.used sf'.home) ?_
      rintro _ w11 ⟨b, mb, s', rfl, o, _, s11⟩
      have hpP := o.pgs
      have hP : s'.hd.pages = P.length := by rw [← hpP, pgs_len]
      have hPl : P.length = 12 := by omega
      simp (disch := first | omega | exact okFill_t rfl | exact okSize_t rfl | exact fun h => h | (simp only [World.size_alloc, World.size_drew, World.size_setCell, size_fill, bytesW]; omega)) only [go_sem, c4, c4S0, c4S1, c4S2, c4L0, c4S3, c4S4, c4S5, c4L1, c4S6, c4S7, c4S8, c4S9, c4S10, c4S11, c4S12, c4S13, c4S14, c4S15, c4S16, c4S17, c4S18, c4S19, c4S20]
      have s0 := s11.nilRow 9 1
      generalize hLL : (StoH e'.b e'.mb e'.g t ++ _ : List Res) = LL at s11 s0
      clear hLL
      have hII : [Inv.rd 1 strE v9 Q9, .rd 1 strE (.slice a8 P.length m8) P, .rd 4 ActP.enc (.slice an now.length cn) now][1]? = some (.rd 1 strE (.slice a8 P.length m8) P) := rfl
      generalize [Inv.rd 1 strE v9 Q9, .rd 1 strE (.slice a8 P.length m8) P, .rd 4 ActP.enc (.slice an now.length cn) now] = II at s0 s11 hII
      clear s11
      refine W_loopU (fun q : Nat × Value => [(15, q.2), (16, .int .i64 q.1)]) (fun q w' => q.1 ≤ P.length ∧ St w w' (fun _ => False) (.row q.2 9 1 q.1 ((P.take q.1).flatMap strE) :: (StoL b mb e'.g e'.vb vl10 s' ++ LL)) II) (fun q => P.length - q.1) (0, .slice none 0 0) rfl ⟨Nat.zero_le _, by simpa using s0⟩ ?_
      clear s0
      rintro ⟨i, vo⟩ w12 ⟨hi, s1⟩
      simp only at hi s1
      obtain ⟨ao, co, rfl, _⟩ := own_slice (s1.row 0 rfl)
      have s1' : St w w12 (fun _ => False) (StoL b mb e'.g e'.vb vl10 s' ++ (.row (.slice ao i co) 9 1 i ((P.take i).flatMap strE) :: LL)) II := St.front (A := [_]) (D := StoL b mb e'.g e'.vb vl10 s') (L := LL) s1
      simp (disch := first | omega | exact okFill_t rfl | exact okSize_t rfl | exact fun h => h | (simp only [World.size_alloc, World.size_drew, World.size_setCell, size_fill, bytesW]; omega)) only [go_sem, c4, c4S0, c4S1, c4S2, c4L0, c4S3, c4S4, c4S5, c4L1, c4S6, c4S7, c4S8, c4S9, c4L2, c4S10, c4S11, c4S12, c4S13, c4S14, c4S15, c4S16, c4S17, c4S18, c4S19, c4S20, c4L2]
      refine Ret.mono (slen_ok s1') ?_
      rintro _ w13 ⟨rfl, e13⟩
      subst w13
      rw [hP]
      by_cases hlt : i < P.length
      · have hlt' : (i : Int) < P.length := by omega
        simp (disch := first | omega | exact okFill_t rfl | exact okSize_t rfl | exact fun h => h | (simp only [World.size_alloc, World.size_drew, World.size_setCell, size_fill, bytesW]; omega)) only [go_sem, c4, c4S0, c4S1, c4S2, c4L0, c4S3, c4S4, c4S5, c4L1, c4S6, c4S7, c4S8, c4S9, c4L2, c4S10, c4S11, c4S12, c4S13, c4S14, c4S15, c4S16, c4S17, c4S18, c4S19, c4S20, hlt']
        refine Ret.mono (sread_ok i s1' o.ok) ?_
        rintro _ w14 ⟨rfl, s3⟩
        rw [(nowP_eq o.ok o.dead o.gone (by omega) (by omega)).1] at s3 ⊢
        have s4 : St w w14 (fun _ => False) (.row (.slice ao i co) 9 1 i ((P.take i).flatMap strE) :: (StoL b mb e'.g e'.vb vl10 s' ++ LL)) II := St.front (A := StoL b mb e'.g e'.vb vl10 s') (D := [_]) (L := LL) s3
        have eP : nowP s' i = P[i] := by
          have := pgs_get (s := s') (i := i) (by rw [pgs_len]; omega)
          rw [← this]
          simp only [hpP]
        rw [eP]
        simp (disch := first | omega | exact okFill_t rfl | exact okSize_t rfl | exact fun h => h | (simp only [World.size_alloc, World.size_drew, World.size_setCell, size_fill, bytesW]; omega)) only [go_sem, c4, c4S0, c4S1, c4S2, c4L0, c4S3, c4S4, c4S5, c4L1, c4S6, c4S7, c4S8, c4S9, c4L2, c4S10, c4S11, c4S12, c4S13, c4S14, c4S15, c4S16, c4S17, c4S18, c4S19, c4S20]
        have ones : ∀ u ∈ strE P[i], u.oneCell' = true := by simpa using strE_ones [P[i]]
        refine bsW_ones ty49mkI rfl rfl (by decide) (by decide) ones ?_
        have hx : Rd (w14.alloc (.cells (strE P[i]).toArray 9)) 1 (.slice (some ⟨w14.heap.size, 0, none⟩) 1 1) 1 (strE P[i]) := rd_new (n := 1) (cs := (strE P[i]).toArray) rfl
        simp (disch := first | omega | exact okFill_t rfl | exact okSize_t rfl | exact fun h => h | (simp only [World.size_alloc, World.size_drew, World.size_setCell, size_fill, bytesW]; omega)) only [go_sem, c4, c4S0, c4S1, c4S2, c4L0, c4S3, c4S4, c4S5, c4L1, c4S6, c4S7, c4S8, c4S9, c4L2, c4S10, c4S11, c4S12, c4S13, c4S14, c4S15, c4S16, c4S17, c4S18, c4S19, c4S20]
        refine (s4.alloc' (.cells (strE P[i]).toArray 9)).append 0 rfl ty49mkI rfl (by decide) hx ones (by omega) (by omega) ?_
        intro v6 w6 s6 c6
        simp (disch := first | omega | exact okFill_t rfl | exact okSize_t rfl | exact fun h => h | (simp only [World.size_alloc, World.size_drew, World.size_setCell, size_fill, bytesW]; omega)) only [go_sem, c4, c4S0, c4S1, c4S2, c4L0, c4S3, c4S4, c4S5, c4L1, c4S6, c4S7, c4S8, c4S9, c4L2, c4S10, c4S11, c4S12, c4S13, c4S14, c4S15, c4S16, c4S17, c4S18, c4S19, c4S20]
        refine ⟨by constructor <;> omega, (i + 1, v6), rfl, ⟨by simp only; omega, st_recast s6 ?_⟩, by simp only; omega⟩
        rw [List.take_succ_eq_append_getElem hlt, strE_snoc]; rfl
      · have hlt' : ¬ (i : Int) < P.length := by omega
        obtain rfl : i = P.length := by omega
        rw [List.take_of_length_le (Nat.le_refl _)] at s1
        have hA : RdS w12 1 strE (.slice ao P.length co) P := RdS.of_own' (s1.row 0 rfl) _ rfl rfl
        have hB : RdS w12 1 strE (.slice a8 P.length m8) P := s1.rd 1 hII
        have ed : decide (P = P) = true := by simp
        simp (disch := first | omega | exact okFill_t rfl | exact okSize_t rfl | exact fun h => h | (simp only [World.size_alloc, World.size_drew, World.size_setCell, size_fill, bytesW]; omega)) only [go_sem, c4, c4S0, c4S1, c4S2, c4L0, c4S3, c4S4, c4S5, c4L1, c4S6, c4S7, c4S8, c4S9, c4L2, c4S10, c4S11, c4S12, c4S13, c4S14, c4S15, c4S16, c4S17, c4S18, c4S19, c4S20, hlt']
        refine Ret.mono (rsame_ok P P _ _ w12 hA hB (by omega)) ?_
        rintro _ w15 ⟨rfl, b15⟩
        rw [ed]
        have s15 := s1.call b15
        simp (disch := first | omega | exact okFill_t rfl | exact okSize_t rfl | exact fun h => h | (simp only [World.size_alloc, World.size_drew, World.size_setCell, size_fill, bytesW]; omega)) only [go_sem, c4, c4S0, c4S1, c4S2, c4L0, c4S3, c4S4, c4S5, c4L1, c4S6, c4S7, c4S8, c4S9, c4L2, c4S10, c4S11, c4S12, c4S13, c4S14, c4S15, c4S16, c4S17, c4S18, c4S19, c4S20]
        refine Ret.mono (awakeP_ok w15) ?_
        rintro _ w16 ⟨rfl, b16⟩
        simp (disch := first | omega | exact okFill_t rfl | exact okSize_t rfl | exact fun h => h | (simp only [World.size_alloc, World.size_drew, World.size_setCell, size_fill, bytesW]; omega)) only [go_sem, c4, c4S0, c4S1, c4S2, c4L0, c4S3, c4S4, c4S5, c4L1, c4S6, c4S7, c4S8, c4S9, c4L2, c4S10, c4S11, c4S12, c4S13, c4S14, c4S15, c4S16, c4S17, c4S18, c4S19, c4S20]
        exact Below.next s15.bel b16
    by_cases h1 : j < now.length
    · have h1' : (j : Int) < now.length := by omega
      have h2' : ¬ (j : Int) < 30 := by omega
      simp (disch := first | omega | exact okFill_t rfl | exact okSize_t rfl | exact fun h => h | (simp only [World.size_alloc, World.size_drew, World.size_setCell, size_fill, bytesW]; omega)) only [go_sem, c4, c4S0, c4S1, c4S2, c4L0, c4S3, c4S4, c4S5, c4L1, c4S6, c4S7, c4S8, c4S9, c4L2, c4S10, c4S11, c4S12, c4S13, c4S14, c4S16, c4S17, c4S18, c4S19, c4S20, c4L1, h1', h2']
      exact rest
    · have h1' : ¬ (j : Int) < now.length := by omega
      simp (disch := first | omega | exact okFill_t rfl | exact okSize_t rfl | exact fun h => h | (simp only [World.size_alloc, World.size_drew, World.size_setCell, size_fill, bytesW]; omega)) only [go_sem, c4, c4S0, c4S1, c4S2, c4L0, c4S3, c4S4, c4S5, c4L1, c4S6, c4S7, c4S8, c4S9, c4L2, c4S10, c4S11, c4S12, c4S13, c4S14, c4S16, c4S17, c4S18, c4S19, c4S20, c4L1, h1']
      exact rest
  by_cases h1 : k < was.length
  · have h1' : (k : Int) < was.length := by omega
    have h2' : ¬ (k : Int) < 30 := by omega
    simp (disch := first | omega | exact okFill_t rfl | exact okSize_t rfl | exact fun h => h | (simp only [World.size_alloc, World.size_drew, World.size_setCell, size_fill, bytesW]; omega)) only [go_sem, c4, c4S0, c4S1, c4S2, c4L0, c4S3, c4S4, c4S5, c4L1, c4S6, c4S7, c4S8, c4S9, c4L2, c4S10, c4S11, c4S12, c4S13, c4S14, c4S15, c4S16, c4S18, c4S19, c4S20, c4L0, h1', h2']
    exact rest
  · have h1' : ¬ (k : Int) < was.length := by omega
    simp (disch := first | omega | exact okFill_t rfl | exact okSize_t rfl | exact fun h => h | (simp only [World.size_alloc, World.size_drew, World.size_setCell, size_fill, bytesW]; omega)) only [go_sem, c4, c4S0, c4S1, c4S2, c4L0, c4S3, c4S4, c4S5, c4L1, c4S6, c4S7, c4S8, c4S9, c4L2, c4S10, c4S11, c4S12, c4S13, c4S14, c4S15, c4S16, c4S18, c4S19, c4S20, c4L0, h1']
    exact rest
end
theorem safe_law {H : Type} {enc : TypeId × Value → H} {w : World} {r : Reach} {b b1 base base1 : Nat} {sp sp1 : Nat → Bool} {hd hd1 : Bool} {v v1 : Value} {d d1 : DataW H} {ps ps1 : List MemPlace} (h0 : Value.okWide Tryz.prog w r b 45 v)
    (k0 : DataW.Trod enc Tryz.prog w base sp hd 45 v d ps) (h1 : Value.okWide Tryz.prog w r b1 45 v1) (k1 : DataW.Trod enc Tryz.prog w base1 sp1 hd1 45 v1 d1 ps1) : Ret Tryz.prog 4 [v, v1] w fun u w' => u = .bool true ∧ Below w.heap.size w w' := by
  obtain ⟨xs, q1, q2⟩ := Opens.slice_arg (opens_slice opens_ActP Tryz.underlying45 (by kernel_rfl)) Tryz.underlying45 h0 k0
  obtain ⟨ys, q3, q4⟩ := Opens.slice_arg (opens_slice opens_ActP Tryz.underlying45 (by kernel_rfl)) Tryz.underlying45 h1 k1
  obtain ⟨q5, q6⟩ := q1.plain (enc := ActP.enc) (ok := ActP.wf) fun x c h => h
  obtain ⟨q7, q8⟩ := q3.plain (enc := ActP.enc) (ok := ActP.wf) fun x c h => h
  exact safe_ok w q5 q7 q2 q4 q6 q8
end Go.Proofs.YtmchjbgobiagiaaGreat
