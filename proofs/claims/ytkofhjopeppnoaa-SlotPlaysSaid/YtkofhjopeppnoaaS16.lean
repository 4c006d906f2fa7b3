/- Calls, as the law's argument; a page held in a block. -/
import Derived.Test.YtkofhjopeppnoaaS15
namespace Go.Proofs.Ytkofhjopeppnoaa
set_option linter.unusedSimpArgs false
set_option linter.unusedVariables false
set_option maxRecDepth 100000
open Go Go.Ann Go.RowKit
structure ActT where
  Kind : Int
  At : Int
  Rec : List UInt8
deriving DecidableEq
def ActT.enc (a : ActT) : List Value := [.int .i64 a.Kind, .int .i64 a.At, .string (ofL a.Rec)]
def ActT.wf (a : ActT) : Prop := kOk .i64 a.Kind ∧ kOk .i64 a.At ∧ (a.Rec.length : Int) ≤ 9223372036854775807
theorem ActT.len (a : ActT) : a.enc.length = 3 := rfl
theorem ActT.one (a : ActT) : ∀ u ∈ a.enc, u.oneCell' = true := by intro u hu; simp only [ActT.enc, List.mem_cons, List.not_mem_nil, or_false] at hu; rcases hu with rfl | rfl | rfl <;> rfl
theorem ActT.ones (l : List ActT) : ∀ u ∈ l.flatMap ActT.enc, u.oneCell' = true := by intro u hu; obtain ⟨a, _, h⟩ := List.mem_flatMap.1 hu; exact a.one u h
/-- Its cells, as rules. -/
theorem ActT.at (a : ActT) : a.enc[0]? = some (.int .i64 a.Kind) ∧ a.enc[1]? = some (.int .i64 a.At) ∧ a.enc[2]? = some (.string (ofL a.Rec)) := ⟨rfl, rfl, rfl⟩
set_option maxRecDepth 100000 in
theorem opens_ActT : Opens Try.prog 47 (fun _ (a : ActT) cs => cs = a.enc ∧ a.wf) := by
  intro H enc w base sp hd fuel cs x hx
  obtain ⟨hl, hf⟩ := opens_fields Try.underlying47 hx
  rw [show Try.prog.cellsOf 47 = 3 by kernel_rfl] at hl
  have c_0 : Try.prog.cellsOf 3 = 1 := by kernel_rfl
  have c_1 : Try.prog.cellsOf 9 = 1 := by kernel_rfl
  match cs, hl with
  | [v0, v1, v2], _ =>
    obtain ⟨n0, y0, g0⟩ := hf 0 _ rfl
    have h0 : DataW.trod enc Try.prog w base sp hd n0 3 (List.take (Try.prog.cellsOf 3) [v0, v1, v2]) = some y0 := g0
    rw [c_0] at h0
    obtain ⟨a0, e0⟩ := opens_int Try.underlying3 enc w base sp hd n0 [v0] y0 h0
    have r0 : v0 = _ := (List.cons.inj e0.1).1
    obtain ⟨n1, y1, g1⟩ := hf 1 _ rfl
    have h1 : DataW.trod enc Try.prog w base sp hd n1 3 (List.take (Try.prog.cellsOf 3) [v1, v2]) = some y1 := g1
    rw [c_0] at h1
    obtain ⟨a1, e1⟩ := opens_int Try.underlying3 enc w base sp hd n1 [v1] y1 h1
    have r1 : v1 = _ := (List.cons.inj e1.1).1
    obtain ⟨n2, y2, g2⟩ := hf 2 _ rfl
    have h2 : DataW.trod enc Try.prog w base sp hd n2 9 (List.take (Try.prog.cellsOf 9) [v2]) = some y2 := g2
    rw [c_1] at h2
    obtain ⟨a2, e2⟩ := opens_str Try.underlying9 enc w base sp hd n2 [v2] y2 h2
    have r2 : v2 = _ := (List.cons.inj e2.1).1
    exact ⟨⟨a0, a1, a2⟩, by rw [r0, r1, r2]; rfl, e0.2, e1.2, e2.2⟩
theorem opens_Acts : Opens Try.prog 44 (fun w (xs : List ActT) cs => ∃ v, cs = [v] ∧ RdS w 3 ActT.enc v xs ∧ (∀ x ∈ xs, x.wf) ∧ (xs.length : Int) ≤ 9223372036854775807) :=
  Opens.mono (opens_slice opens_ActT Try.underlying44 (by kernel_rfl)) fun w xs cs ⟨v, h1, h2, h3⟩ =>
    have h := h2.plain (enc := ActT.enc) (ok := ActT.wf) fun _ _ h => h
    ⟨xs, v, h1, h.1, h.2, h3⟩
/-- Records that can be read don't lie in a page's block. -/
theorem page_apart {w : World} {b n c m c' : Nat} {a a' : Option Addr} {k : Int} {L : List (List UInt8)} {t : TypeId} (hB : Blk w b #[.int .i64 k, .slice a' m c'] t) (h : RdS w 1 strE (.slice a n c) L) (h0 : 0 < L.length) : ∀ p, a = some p → p.block ≠ b := by
  rintro p rfl e
  obtain ⟨_, _, e1, _⟩ := h.form
  cases e1
  have := RdS.str h h0
  rw [show p.add 0 = p from rfl] at this
  unfold World.cell? at this
  rw [e, hB] at this
  obtain ⟨pb, po, ps⟩ := p
  cases ps with
  | some x => simp at this
  | none =>
    match po, this with
    | 0, this => simp at this
    | 1, this => simp at this
    | n + 2, this => simp at this
theorem page_fill {w : World} {b n c m c' : Nat} {a a' : Option Addr} {k : Int} {L : List (List UInt8)} {t : TypeId} (hB : Blk w b #[.int .i64 k, .slice a' m c'] t) (h : RdS w 1 strE (.slice a n c) L) (cs : Array Value) : RdS (w.fill b cs) 1 strE (.slice a n c) L := by
  obtain ⟨a1, c1, e1, hc⟩ := h.form
  cases e1
  rcases Nat.eq_zero_or_pos L.length with h0 | h0
  · obtain ⟨h1, a2, c2, e2, h3, h4⟩ := h
    exact ⟨h1, a2, c2, e2, h3, fun h => absurd h0 h⟩
  · exact h.chg (S := fun k => k = b) ((Chg.refl _ w).fill fun _ => rfl) (page_apart hB h h0)
end Go.Proofs.Ytkofhjopeppnoaa
