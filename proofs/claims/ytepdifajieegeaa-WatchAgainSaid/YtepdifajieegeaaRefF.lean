/- The reference's watch: Know. No condition. -/
import Derived.Test.YtepdifajieegeaaRefE
namespace Go.Proofs.Ytepdifajieegeaa
open Go.RowKit

/-- a load of a whole struct, among reads -/
theorem wpStill_load_mid {P : Program} {ops : Array Oper} {rest : List Oper} {op : Oper} {a : Act} {w w0 : World} {Q : Act → Prop} (hgd : op.guard = none) (ty : TypeId) (x : Operand) (ho : op.op = .load ty x)
    (b o : Nat) (hx : a.eval x = .pointer (some ⟨b, o, none⟩)) (cs : List Value) (d : TypeDesc) (hc : w0.rangeAt b o cs) (hw : w.heap = w0.heap)
    (hu : P.underlying ty = some d) (hd : d.isRow = true) (hi : (P.info? ty).map (·.size) = some cs.length)
    (h : wpStill P ops w Q rest (a.put op.dst (.agg cs.toArray))) : wpStill P ops w Q (op :: rest) a := by
  refine wpStill_step (fun K hK => ?_)
  have h1 : Region.wanted op (yielded ops a.tmps) = true := by simp [Region.wanted, hgd]
  rw [if_pos h1]
  have hr := run_loadVar_mid (P := P) w b o ty cs d (range_keep hc (by rw [hw])) hu hd hi
  unfold Oper.still
  simp only [execOp, ho, hx, Instr.loadAt, Instr.sureAddr, Sem.run_bind, Sem.run_pure, Result.andThen_ok, hr]
  exact ⟨rfl, hK _ h⟩

theorem heap_setCells {b : Nat} {T : TypeId} {z : Nat × Nat} : ∀ (vs : List Value) (o : Nat) (w : World) (cur : Array Value), w.heap[b]? = some (.cells cur T z) → o + vs.length ≤ cur.size →
    ∃ cur', (w.setCells b o vs).heap[b]? = some (.cells cur' T z) ∧ cur'.size = cur.size ∧ (∀ j, o ≤ j → j < o + vs.length → cur'[j]? = vs[j - o]?) ∧ (∀ j, (j < o ∨ o + vs.length ≤ j) → cur'[j]? = cur[j]?)
  | [], o, w, cur, h, _ => ⟨cur, h, rfl, fun j a b => by simp at b; omega, fun _ _ => rfl⟩
  | v :: vs, o, w, cur, h, hl => by
    simp only [List.length_cons] at hl
    obtain ⟨cur', h1, h2, h3, h4⟩ := heap_setCells vs (o + 1) (w.setCell ⟨b, o, none⟩ v) (cur.setIfInBounds o v) (heap_setCell_eq h o v) (by simp; omega)
    refine ⟨cur', h1, by simpa using h2, fun j a c => ?_, fun j hj => ?_⟩
    · simp only [List.length_cons] at c
      by_cases e : j = o
      · subst e
        rw [h4 j (.inl (by omega))]
        simp [Array.getElem?_setIfInBounds]; omega
      · rw [h3 j (by omega) (by omega)]
        obtain ⟨m, rfl⟩ : ∃ m, j = o + 1 + m := ⟨j - (o + 1), by omega⟩
        rw [show o + 1 + m - (o + 1) = m by omega, show o + 1 + m - o = m + 1 by omega]
        simp
    · simp only [List.length_cons] at hj
      rw [h4 j (by omega)]
      rw [Array.getElem?_setIfInBounds, if_neg (by omega)]
theorem Fr.setCells {F : Nat → Prop} {a : World} {b : Nat} (hb : F b ∨ a.heap.size ≤ b) : ∀ (vs : List Value) (o : Nat) (w : World), Fr F a w → Fr F a (w.setCells b o vs)
  | [], _, _, h => h
  | v :: vs, o, w, h => Fr.setCells hb vs (o + 1) _ (h.setCell hb v)

theorem RSt.row {w xp T M L G} (h : RSt w xp T M L G) {rb n cap} (hc : w.cell? ⟨xp, 2, none⟩ = some (.slice (some ⟨rb, 0, none⟩) n cap)) : n = L.length ∧ ∃ cur, w.heap[rb]? = some (.cells cur 75 (0, 0)) ∧ G rb ∧ rb ≠ xp ∧ n ≤ cap ∧ cap ≤ maxLen ∧ cur.size = cap * 258 ∧ Ones (cur.toList.take (n * 258)) L ∧
    w.heap[xp]? = some (.cells #[.int .i64 T, .int .i64 M, .slice (some ⟨rb, 0, none⟩) n cap] 78 (0, 0)) := by
  obtain ⟨v, xs, hd, ⟨hl, ho⟩, hx, hb⟩ := h.st
  have e := cell_blk hd 2
  rw [hc] at e
  simp at e
  subst e
  rcases ho with ⟨e, _⟩ | ⟨g, cap', cur, e, _, hh, r1, r2, r3, rfl⟩
  · cases e
  · cases e
    exact ⟨rfl, cur, hh, (hb rb rfl).1, (hb rb rfl).2, r1, r2, r3, hx, hd⟩

set_option maxRecDepth 100000 in
/-- the k-th one's clock is stored -/
theorem RSt.setClk {w xp T M L G} (h : RSt w xp T M L G) {rb n cap k} (hc : w.cell? ⟨xp, 2, none⟩ = some (.slice (some ⟨rb, 0, none⟩) n cap)) (hk : k < L.length) {D : List Value} (hD : CL D.toArray) :
    RSt (w.setCells rb (k * 258 + 2) D) xp T M L G := by
  obtain ⟨rfl, cur, hh, hg, hne, r1, r2, r3, hx, hd⟩ := h.row hc
  have hDl : D.length = 256 := by simpa using hD.1
  obtain ⟨cur', h1, h2, h3, h4⟩ := heap_setCells D (k * 258 + 2) w cur hh (by rw [hDl]; omega)
  have hxp : (w.setCells rb (k * 258 + 2) D).heap[xp]? = w.heap[xp]? :=
    ((Fr.setCells (F := fun b => b = rb) (.inl rfl) D (k * 258 + 2) w (Fr.refl _ w)).keep xp h.lt (fun e => hne e.symm))
  have hl' : (cur'.toList.take (L.length * 258)).length = L.length * 258 := by simp; omega
  refine ⟨⟨_, cur'.toList.take (L.length * 258), hxp.trans hd, ⟨hl', .inr ⟨rb, cap, cur', rfl, Nat.zero_le _, h1, r1, r2, by omega, rfl⟩⟩, ⟨hl', fun i hi => ?_⟩, fun b e => by cases e; exact ⟨hg, hne⟩⟩, h.gx, h.len⟩
  obtain ⟨x1, x2, x3⟩ := hx.2 i hi
  have tk : ∀ j, j < L.length * 258 → ∀ c : Array Value, (c.toList.take (L.length * 258))[j]? = c[j]? := fun j hj c => by simp [List.getElem?_take, hj]
  rw [tk _ (by omega)] at x1 x2
  refine ⟨?_, ?_, fun j hj => ?_⟩
  · rw [tk _ (by omega), h4 _ (by omega)]; exact x1
  · rw [tk _ (by omega), h4 _ (by omega)]; exact x2
  · obtain ⟨z, hz⟩ := x3 j hj
    rw [tk _ (by omega)] at hz ⊢
    by_cases e : i = k
    · subst e
      obtain ⟨z', hz'⟩ := hD.2 j hj
      exact ⟨z', by rw [h3 _ (by omega) (by omega), show i * 258 + 2 + j - (i * 258 + 2) = j by omega]; simpa using hz'⟩
    · exact ⟨z, by rw [h4 _ (by omega)]; exact hz⟩
end Go.Proofs.Ytepdifajieegeaa
