/- The watch: what it holds. No condition. -/
import Derived.Test.YtepdifajieegeaaClkE
import Derived.Test.YtepdifajieegeaaMap
namespace Go.Proofs.Ytepdifajieegeaa
open Go.RowKit

abbrev Crew := List (Int × Int × Nat)
abbrev oneV (tid : Int) (c : Nat) : Value := .agg #[.int .i64 tid, ptr c]
def crewL (cr : Crew) : PL := cr.map fun x => (x.1, oneV x.2.1 x.2.2)
/-- a goroutine's tid and clock -/
def lk (cr : Crew) (g : Int) : Option (Int × Nat) := (cr.find? (fun x => x.1 == g)).map (·.2)

structure WSt (w : World) (wp r : Nat) (t m : Int) (cr : Crew) (M : Nat → Option (Nat → Int)) (F : Nat → Prop) : Prop where
  clk : Clks w M F
  hd : w.heap[wp]? = some (.cells #[.int .i64 t, .int .i64 m, .map (some r)] 63 (0, 0))
  mp : ∃ es k, IMap w r (crewL cr) es k
  nw : ¬ F wp
  nr : ¬ F r
  keys : (cr.map (·.1)).Nodup
  tids : (cr.map (·.2.1)).Nodup
  ptrs : (cr.map (·.2.2)).Nodup
  rng : ∀ x ∈ cr, 0 ≤ x.2.1 ∧ x.2.1 < t
  cls : ∀ x ∈ cr, ∃ f, M x.2.2 = some f
  tb : 1 ≤ t ∧ t ≤ 256
  mb : 1 ≤ m ∧ m ≤ 1048576

/-- the watch's blocks -/
def WF (wp r : Nat) (F : Nat → Prop) : Nat → Prop := fun b => b = wp ∨ b = r ∨ F b

theorem find_crew (cr : Crew) (g : Int) : find (crewL cr) g = (lk cr g).map fun y => oneV y.1 y.2 := by
  induction cr with
  | nil => rfl
  | cons x cr ih =>
    simp only [find, crewL, lk, List.map_cons, List.find?_cons] at ih ⊢
    cases h : x.1 == g
    · simpa using ih
    · simp
theorem lk_mem {cr : Crew} {g tid : Int} {c : Nat} (h : lk cr g = some (tid, c)) : (g, tid, c) ∈ cr := by
  unfold lk at h
  obtain ⟨x, hx, hy⟩ := Option.map_eq_some_iff.1 h
  have h1 := List.find?_some hx
  have h2 := List.mem_of_find?_eq_some hx
  simp only [beq_iff_eq] at h1
  obtain ⟨a, b⟩ := x
  subst h1; subst hy; exact h2
theorem lk_none {cr : Crew} {g : Int} (h : lk cr g = none) : g ∉ cr.map (·.1) := by
  unfold lk at h
  simp only [Option.map_eq_none_iff, List.find?_eq_none, beq_iff_eq] at h
  intro hm
  obtain ⟨x, hx, rfl⟩ := List.mem_map.1 hm
  exact h x hx rfl

theorem WSt.wr {w wp r t m cr M F} (h : WSt w wp r t m cr M F) : wp ≠ r := by
  rintro rfl
  obtain ⟨es, k, hm⟩ := h.mp
  have := h.hd.symm.trans hm.hd
  cases this
theorem WSt.lt {w wp r t m cr M F} (h : WSt w wp r t m cr M F) : ∀ b, WF wp r F b → b < w.heap.size := by
  rintro b (rfl | rfl | f)
  · exact heap_lt h.hd
  · obtain ⟨es, k, hm⟩ := h.mp; exact heap_lt hm.hd
  · exact h.clk.fin b f
theorem WSt.keep {w w' wp r t m cr M F} (h : WSt w wp r t m cr M F) (hk : ∀ b, WF wp r F b → w'.heap[b]? = w.heap[b]?) (hs : w.heap.size ≤ w'.heap.size) : WSt w' wp r t m cr M F := by
  obtain ⟨es, k, hm⟩ := h.mp
  exact ⟨h.clk.keep (fun b f => hk b (.inr (.inr f))) hs, (hk wp (.inl rfl)).trans h.hd, ⟨es, k, hm.keep (hk r (.inr (.inl rfl)))⟩, h.nw, h.nr, h.keys, h.tids, h.ptrs, h.rng, h.cls, h.tb, h.mb⟩
theorem WSt.sil {w w' wp r t m cr M F} (h : WSt w wp r t m cr M F) (k : Fr (fun _ => False) w w') : WSt w' wp r t m cr M F :=
  h.keep (fun b f => k.keep b (h.lt b f) (fun x => x)) k.size
theorem WSt.drew {w wp r t m cr M F} (h : WSt w wp r t m cr M F) : WSt w.drew wp r t m cr M F := h.keep (fun _ _ => rfl) (Nat.le_refl _)
theorem WSt.drewN {w wp r t m cr M F} (h : WSt w wp r t m cr M F) (n : Nat) : WSt (w.drewN n) wp r t m cr M F := h.keep (fun _ _ => rfl) (Nat.le_refl _)
theorem WSt.alloc {w wp r t m cr M F} (h : WSt w wp r t m cr M F) (o : Obj) : WSt (w.alloc o) wp r t m cr M F := h.sil ((Fr.refl _ _).alloc o)
/-- the clocks have turned -/
theorem WSt.clocks {w w' wp r t m cr M M' F} (h : WSt w wp r t m cr M F) (hC : Clks w' M' (Gr F w w')) (k : Fr F w w') (hM : ∀ x ∈ cr, ∃ f, M' x.2.2 = some f) : WSt w' wp r t m cr M' (Gr F w w') := by
  obtain ⟨es, kk, hm⟩ := h.mp
  have hwp := heap_lt h.hd
  have hr := heap_lt hm.hd
  exact ⟨hC, (k.keep wp hwp h.nw).trans h.hd, ⟨es, kk, hm.keep (k.keep r hr h.nr)⟩, fun g => by rcases g with g | g; exact h.nw g; omega, fun g => by rcases g with g | g; exact h.nr g; omega,
    h.keys, h.tids, h.ptrs, h.rng, hM, h.tb, h.mb⟩
/-- the clocks have turned, behind a silent beginning -/
theorem WSt.clocks' {w w1 w' wp r t m cr M M' F} (h : WSt w wp r t m cr M F) (hs : Fr (fun _ => False) w w1) (hC : Clks w' M' (Gr F w1 w')) (k : Fr F w1 w') (hM : ∀ x ∈ cr, ∃ f, M' x.2.2 = some f) :
    WSt w' wp r t m cr M' (Gr F w w') ∧ Fr F w w' := by
  have h2 := (h.sil hs).clocks hC k hM
  have hFr : Fr F w w' := (hs.mono (fun _ x => x.elim)).trans k (fun _ g _ => g)
  refine ⟨?_, hFr⟩
  have := hs.size
  refine ⟨h2.clk.grow ?_ ?_, h2.hd, h2.mp, ?_, ?_, h2.keys, h2.tids, h2.ptrs, h2.rng, h2.cls, h2.tb, h2.mb⟩
  · rintro b (g | g); exact .inl g; exact .inr (by omega)
  · rintro b (g | g); have := h.clk.fin b g; have := hFr.size; omega; exact g.2
  · rintro (g | g); exact h.nw g; have := heap_lt h.hd; omega
  · rintro (g | g); exact h.nr g; obtain ⟨es, kk, hm⟩ := h.mp; have := heap_lt hm.hd; omega
/-- the watch's cells -/
theorem WSt.c0 {w wp r t m cr M F} (h : WSt w wp r t m cr M F) : w.cell? ⟨wp, 0, none⟩ = some (.int .i64 t) := by simpa using cell_blk h.hd 0
theorem WSt.c1 {w wp r t m cr M F} (h : WSt w wp r t m cr M F) : w.cell? ⟨wp, 1, none⟩ = some (.int .i64 m) := by simpa using cell_blk h.hd 1
theorem WSt.c2 {w wp r t m cr M F} (h : WSt w wp r t m cr M F) : w.cell? ⟨wp, 2, none⟩ = some (.map (some r)) := by simpa using cell_blk h.hd 2
/-- what a silent call leaves of cells -/
theorem sil_cell {w w' : World} (k : Fr (fun _ => False) w w') : ∀ b i, b < w.heap.size → w'.cell? ⟨b, i, none⟩ = w.cell? ⟨b, i, none⟩ := fun b i hb => cell_same (k.keep b hb (fun x => x)) i
theorem sil_froz {w w' : World} (k : Fr (fun _ => False) w w') : ∀ b i, b < w.heap.size → w'.frozen? ⟨b, i, none⟩ = w.frozen? ⟨b, i, none⟩ := fun b i hb => frozen_same (k.keep b hb (fun x => x)) i

/-- the step of a range over the crew -/
theorem wpList_next_crew {P : Program} (w : World) {ops : Array Oper} {rest : List Oper} {o : Oper} {a : Act} {Q : Exit → Act → World → Prop} (hg : o.guard = none) (x : Operand) (hop : o.op = .next x false)
    (it r : Nat) (cr : Crew) (vis : Nat → Bool) (c : Nat) (hx : a.eval x = .pointer (some ⟨it, 0, none⟩)) (h : MIt w it r (crewL cr) vis c) (hne : it ≠ r)
    (hDone : c = 0 → (∀ j, j < cr.length → vis j = true) → wpList P ops Q rest (a.put o.dst (.tuple #[.bool false])) w)
    (hMore : ∀ j c' w' (hj : j < cr.length), vis j = false → c' < c → MIt w' it r (crewL cr) (upd vis j true) c' → Only it w w' → (Instr.entry (.pointer (some ⟨it, 0, none⟩))).run P w' = .ok (.tuple #[.int .i64 cr[j].1, oneV cr[j].2.1 cr[j].2.2]) w' →
      wpList P ops Q rest (a.put o.dst (.tuple #[.bool true, .int .i64 cr[j].1, oneV cr[j].2.1 cr[j].2.2])) w') :
    wpList P ops Q (o :: rest) a w := by
  refine wpList_next_map w hg x hop it r (crewL cr) vis c hx h hne (fun h0 hv => hDone h0 (fun j hj => hv j (by simpa [crewL] using hj))) ?_
  intro j c' w' hj hv hc hI hO hE
  have hj' : j < cr.length := by simpa [crewL] using hj
  have := hMore j c' w' hj' hv hc hI hO (by simpa [crewL] using hE)
  simpa [crewL] using this
end Go.Proofs.Ytepdifajieegeaa
