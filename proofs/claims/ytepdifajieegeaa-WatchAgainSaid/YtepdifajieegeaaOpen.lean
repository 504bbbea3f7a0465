/- A slice of steps that can be read as data. No condition. -/
import Derived.Test.YtepdifajieegeaaOwn
import Derived.ProofKit
import Derived.OpenShut
import Derived.Deep.Slices
import Derived.Carry
namespace Go.Proofs.Ytepdifajieegeaa
open Go.RowKit Go.ChangeShapes Go.WideShapes Go.Deep

theorem Try.cells47 : Try.prog.cellsOf 47 = 4 := by kernel_rfl
theorem Try.cells3 : Try.prog.cellsOf 3 = 1 := by kernel_rfl
theorem Try.cells38 : Try.prog.cellsOf 38 = 1 := by kernel_rfl
theorem Try.laidOut : laidOutB Try.prog = true := by kernel_rfl

theorem cells4 {l : List Value} (h : l.length = 4) : ∃ a b c d, l = [a, b, c, d] := by
  match l, h with
  | [a, b, c, d], _ => exact ⟨a, b, c, d, rfl⟩

/-- a step's cells, read -/
theorem step_open {H : Type} {enc : TypeId × Value → H} {w : World} {base : Nat} {spare : Nat → Bool} {held : Bool} {fuel : Nat} {cs : List Value} {x : DataW H × List MemPlace} (h : DataW.trod enc Try.prog w base spare held fuel 47 cs = some x) :
    ∃ a g k p n c, cs = [.int .i64 a, .int .i64 g, .int .i64 k, .slice p n c] ∧ (Lit.int .i64 k).wf = true := by
  obtain ⟨xs, n, _, _, hlen, hxl, hf⟩ := DataW.trod_struct Try.underlying47 h
  rw [Try.cells47] at hlen
  obtain ⟨v0, v1, v2, v3, rfl⟩ := cells4 hlen
  obtain ⟨y0, y1, y2, y3, rfl⟩ : ∃ a b c d, xs = [a, b, c, d] := by
    match xs, hxl with
    | [a, b, c, d], _ => exact ⟨a, b, c, d, rfl⟩
  have f0 : DataW.trod enc Try.prog w base spare held n 3 [v0] = some y0 := by simpa [Try.cells3, Try.cells38] using hf 0 _ rfl
  have f1 : DataW.trod enc Try.prog w base spare held n 3 [v1] = some y1 := by simpa [Try.cells3, Try.cells38] using hf 1 _ rfl
  have f2 : DataW.trod enc Try.prog w base spare held n 3 [v2] = some y2 := by simpa [Try.cells3, Try.cells38] using hf 2 _ rfl
  have f3 : DataW.trod enc Try.prog w base spare held n 38 [v3] = some y3 := by simpa [Try.cells3, Try.cells38] using hf 3 _ rfl
  obtain ⟨a, e0, _, _⟩ := DataW.trod_int Try.underlying3 f0
  obtain ⟨g, e1, _, _⟩ := DataW.trod_int Try.underlying3 f1
  obtain ⟨k, e2, _, hk⟩ := DataW.trod_int Try.underlying3 f2
  simp only [List.cons.injEq, and_true] at e0 e1 e2
  subst e0; subst e1; subst e2
  rcases open_slice Try.underlying38 f3 with ⟨e3, _⟩ | ⟨ad, len, cap, _, _, _, _, e3, _⟩
  · simp only [List.cons.injEq, and_true] at e3
    subst e3
    exact ⟨_, _, _, _, _, _, rfl, hk⟩
  · simp only [List.cons.injEq, and_true] at e3
    subst e3
    exact ⟨_, _, _, _, _, _, rfl, hk⟩

theorem steps_open {H : Type} {enc : TypeId × Value → H} {w : World} {base : Nat} {spare : Nat → Bool} {held : Bool} {fuel : Nat} {sp : Option Addr} {len cap : Nat} {x : DataW H × List MemPlace}
    (h : DataW.trod enc Try.prog w base spare held fuel 42 [.slice sp len cap] = some x) : StepsR w (.slice sp len cap) len ∧ len ≤ 9223372036854775807 := by
  rcases open_slice Try.underlying42 h with ⟨e, _⟩ | ⟨a, len', cap', m, n, D, Pl, e, hb, hl, hm, hmm, hx, hi⟩
  · simp only [List.cons.injEq, and_true, Value.slice.injEq] at e
    obtain ⟨rfl, rfl, rfl⟩ := e
    exact ⟨⟨_, _, rfl, fun i hi => by omega⟩, by omega⟩
  · simp only [List.cons.injEq, and_true, Value.slice.injEq] at e
    obtain ⟨rfl, rfl, rfl⟩ := e
    have hlm : len ≤ m := by rw [hmm]; split <;> omega
    refine ⟨⟨_, _, rfl, fun i hil => ?_⟩, by unfold maxLen at hm; omega⟩
    obtain ⟨cs', hc, ht⟩ := hi i (by omega)
    obtain ⟨_, hcl, hat⟩ := World.cells?_some hc
    obtain ⟨v, g, k, p', n', c', rfl, hk⟩ := step_open ht
    rw [Try.cells47] at hat
    obtain ⟨b, off, spot⟩ := a
    have h0 := hat 0 (by omega)
    have hspot : spot = none := by
      by_cases e : i = 0
      · subst e
        exact World.cell?_spot (a := ⟨b, off, spot⟩) (w := w) (v := .int .i64 v) (by simpa [Addr.add] using h0)
      · have hb0 := hi 0 (by omega)
        obtain ⟨cs0, hc0, ht0⟩ := hb0
        obtain ⟨_, _, hat0⟩ := World.cells?_some hc0
        obtain ⟨_, _, _, _, _, _, rfl, _⟩ := step_open ht0
        have := hat0 0 (by rw [Try.cells47]; omega)
        exact World.cell?_spot (a := ⟨b, off, spot⟩) (w := w) (by simpa [Addr.add] using this)
    subst hspot
    have hcell : ∀ j, j < 4 → w.cell? ⟨b, off + i * 4 + j, none⟩ = [Value.int .i64 v, .int .i64 g, .int .i64 k, .slice p' n' c'][j]? := by
      intro j hj
      have := hat j hj
      rw [add_add] at this
      rw [← this]
      unfold Addr.add
      by_cases e : i * 4 + j = 0
      · rw [if_pos e, Nat.add_assoc, e]; rfl
      · rw [if_neg e, Nat.add_assoc]
    refine ⟨b, off, v, g, k, p', n', c', rfl, ?_, fun j u hu => ?_, hk⟩
    · have := hcell 0 (by omega)
      simp only [List.getElem?_cons_zero] at this
      exact World.block_lt_of_cell? _ _ this
    · have hj : j < 4 := by
        have := (List.getElem?_eq_some_iff.1 hu).1
        simpa using this
      rw [hcell j hj]; exact hu
end Go.Proofs.Ytepdifajieegeaa
