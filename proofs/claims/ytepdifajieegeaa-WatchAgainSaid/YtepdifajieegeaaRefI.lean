/- The reference's watch: one more of the ones, built and appended. No condition. -/
import Derived.Test.YtepdifajieegeaaRefH
import Derived.Great.BuildSlice
import Derived.Deep.AppendLies
namespace Go.Proofs.Ytepdifajieegeaa
open Go.RowKit

theorem fill_step {place : Nat → Option (Nat × Nat)} {cells : Array Value} {i : Nat} {v : Value} {rest : List (Nat × Value)} {off size : Nat} (hp : place i = some (off, size)) (hs : v.cells.size = size) (hle : off + size ≤ cells.size) :
    ∃ r, Instr.fill place cells ((i, v) :: rest) = Instr.fill place r rest ∧ r.size = cells.size ∧ ∀ k, r[k]? = if off ≤ k ∧ k < off + size then v.cells[k - off]? else cells[k]? := by
  obtain ⟨g1, g2⟩ := Great.foldl_set off v.cells.toList 0 cells
  refine ⟨(v.cells.toList.zipIdx 0).foldl (fun cs (x : Value × Nat) => cs.setIfInBounds (off + x.2) x.1) cells, ?_, g1, fun k => ?_⟩
  · rw [Instr.fill.eq_def]
    simp only [hp, hs]
    rw [if_neg (by simp; omega)]
    congr 1
    rw [← Array.foldl_toList, Array.toList_zipIdx]
  · rw [g2 k]
    simp only [Nat.add_zero, Array.length_toList, hs, Array.getElem?_toList]
    by_cases h : off ≤ k ∧ k < off + size
    · rw [if_pos ⟨h.1, h.2, by omega⟩, if_pos h]
    · rw [if_neg (by omega), if_neg h]

/-- the cells of one -/
structure OneV (E : Array Value) (g t : Int) : Prop where
  size : E.size = 258
  g0 : E[0]? = some (.int .i64 g)
  t1 : E[1]? = some (.int .i64 t)
  all : ∀ j, j < 258 → ∃ z, E[j]? = some (.int .i64 z)

set_option maxRecDepth 100000 in
theorem Try.offs : Try.prog.built 75 = fun parts => Instr.fill (#[(0, 1), (1, 1), (2, 256)][·]?) (Array.replicate 258 (.int .i64 0)) parts := by
  have h1 : (Try.prog.info? 75).map (fun i => (i.zero, i.size)) = some (some (.agg (Array.replicate 258 (.int .i64 0))), 258) := by kernel_rfl
  have h3 : (Try.prog.info? 3).map (·.size) = some 1 := by kernel_rfl
  have h72 : (Try.prog.info? 72).map (·.size) = some 256 := by kernel_rfl
  obtain ⟨i1, e1, e2⟩ := Option.map_eq_some_iff.1 h1
  simp only [Prod.mk.injEq] at e2
  funext parts
  simp only [Program.built, e1, Try.underlying75, e2.1]
  simp only [List.mapM_cons, List.mapM_nil, h3, h72, Option.bind_eq_bind, Option.bind_some, Option.pure_def]
  rfl

set_option maxRecDepth 100000 in
theorem one_built (g t : Int) {C : Array Value} (hC : CL C) : ∃ E, OneV E g t ∧ Try.prog.built 75 [(0, .int .i64 g), (1, .int .i64 t), (2, .agg C)] = some E := by
  rw [Try.offs]
  obtain ⟨r1, e1, s1, k1⟩ := fill_step (place := (#[(0, 1), (1, 1), (2, 256)][·]?)) (cells := Array.replicate 258 (Value.int .i64 0)) (i := 0) (v := .int .i64 g) (rest := [(1, .int .i64 t), (2, .agg C)]) (off := 0) (size := 1) rfl rfl (by simp)
  obtain ⟨r2, e2, s2, k2⟩ := fill_step (place := (#[(0, 1), (1, 1), (2, 256)][·]?)) (cells := r1) (i := 1) (v := .int .i64 t) (rest := [(2, .agg C)]) (off := 1) (size := 1) rfl rfl (by rw [s1]; simp)
  obtain ⟨r3, e3, s3, k3⟩ := fill_step (place := (#[(0, 1), (1, 1), (2, 256)][·]?)) (cells := r2) (i := 2) (v := .agg C) (rest := []) (off := 2) (size := 256) rfl hC.1 (by rw [s2, s1]; simp)
  refine ⟨r3, ⟨by rw [s3, s2, s1]; simp, ?_, ?_, ?_⟩, ?_⟩
  · rw [k3, if_neg (by omega), k2, if_neg (by omega), k1, if_pos (by omega)]; rfl
  · rw [k3, if_neg (by omega), k2, if_pos (by omega)]; rfl
  · intro j hj
    rw [k3]
    by_cases h2 : 2 ≤ j
    · rw [if_pos (by omega)]; exact hC.2 (j - 2) (by omega)
    · rw [if_neg (by omega), k2]
      by_cases h1 : 1 ≤ j
      · rw [if_pos (by omega), show j - 1 = 0 by omega]; exact ⟨t, rfl⟩
      · rw [if_neg (by omega), k1, if_pos (by omega), show j - 0 = 0 by omega]; exact ⟨g, rfl⟩
  · show Instr.fill _ _ _ = _
    rw [e1, e2, e3]; rfl

set_option maxRecDepth 100000 in
/-- a row of one -/
theorem one_fill {E : Array Value} (hE : E.size = 258) {i : TypeInfo} (hs : i.size = 258) : Instr.fill (fun k => some (k * i.size, i.size)) ((Array.range (1 * i.size)).map ((Value.agg (Array.replicate 258 (.int .i64 0))).cells[· % (Value.agg (Array.replicate 258 (.int .i64 0))).cells.size]!)) [(0, .agg E)] = some E := by
  rw [hs]
  have := Great.fill_whole (s := 258) (by omega) [.agg E] ((Array.range (1 * 258)).map ((Value.agg (Array.replicate 258 (.int .i64 0))).cells[· % (Value.agg (Array.replicate 258 (.int .i64 0))).cells.size]!)) (by intro v hv; simp at hv; subst hv; exact hE) (by simp)
  simpa [Value.cells] using this

theorem info75 : ∃ i, Try.prog.info? 75 = some i ∧ i.zero = some (.agg (Array.replicate 258 (.int .i64 0))) ∧ i.size = 258 ∧ i.bytes = 2064 :=
  info_parts (show (Try.prog.info? 75).map (fun i => (i.zero, i.size, i.bytes)) = some (some (.agg (Array.replicate 258 (.int .i64 0))), 258, 2064) by kernel_rfl)

set_option maxRecDepth 100000 in
theorem Ones.snoc {xs : List Value} {L : List (Int × Int)} (h : Ones xs L) {E : Array Value} {g t : Int} (hE : OneV E g t) : Ones (xs ++ E.toList) (L ++ [(g, t)]) := by
  have hl := h.1
  have hs : E.toList.length = 258 := by simpa using hE.size
  refine ⟨by simp [hl, hE.size]; omega, fun i hi => ?_⟩
  have at0 : ∀ j, i < L.length → j < 258 → (xs ++ E.toList)[i * 258 + j]? = xs[i * 258 + j]? := fun j hi hj => List.getElem?_append_left (by omega)
  have at1 : ∀ j, i = L.length → j < 258 → (xs ++ E.toList)[i * 258 + j]? = E[j]? := fun j hi hj => by
    rw [List.getElem?_append_right (by omega), show i * 258 + j - xs.length = j by omega]; simp
  by_cases hlt : i < L.length
  · obtain ⟨x1, x2, x3⟩ := h.2 i hlt
    have e : (L ++ [(g, t)])[i] = L[i] := List.getElem_append_left hlt
    rw [e]
    refine ⟨(at0 0 hlt (by omega)).trans x1, (at0 1 hlt (by omega)).trans x2, fun j hj => ?_⟩
    rw [Nat.add_assoc, at0 _ hlt (by omega), ← Nat.add_assoc]; exact x3 j hj
  · have hi' : i = L.length := by simp at hi; omega
    have e : (L ++ [(g, t)])[i] = (g, t) := by subst hi'; simp
    rw [e]
    refine ⟨(at1 0 hi' (by omega)).trans hE.g0, (at1 1 hi' (by omega)).trans hE.t1, fun j hj => ?_⟩
    rw [Nat.add_assoc, at1 _ hi' (by omega)]; exact hE.all _ (by omega)
end Go.Proofs.Ytepdifajieegeaa
