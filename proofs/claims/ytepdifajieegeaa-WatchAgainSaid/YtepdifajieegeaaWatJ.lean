/- The watch: Retire, plain part. -/
import Derived.Test.YtepdifajieegeaaWatG
namespace Go.Proofs.Ytepdifajieegeaa
open Go.RowKit
open Classical

def delC : Crew → Int → Crew
  | [], _ => []
  | x :: cr, g => if x.1 == g then cr else x :: delC cr g
theorem del_crew (cr : Crew) (g : Int) : del (crewL cr) g = crewL (delC cr g) := by
  induction cr with
  | nil => rfl
  | cons x cr ih =>
    simp only [crewL, List.map_cons, del, delC] at ih ⊢
    split
    · rfl
    · simp [ih]
theorem delC_sub (cr : Crew) (g : Int) : (delC cr g).Sublist cr := by
  induction cr with
  | nil => exact .slnil
  | cons x cr ih =>
    simp only [delC]; split
    · exact List.sublist_cons_self _ _
    · exact ih.cons_cons _
theorem delC_mem {cr : Crew} {g : Int} (hn : (cr.map (·.1)).Nodup) (x : Int × Int × Nat) : x ∈ delC cr g ↔ x ∈ cr ∧ x.1 ≠ g := by
  induction cr with
  | nil => simp [delC]
  | cons y cr ih =>
    simp only [List.map_cons, List.nodup_cons] at hn
    simp only [delC]
    by_cases e : y.1 = g
    · simp only [beq_iff_eq, e, if_true, List.mem_cons]
      constructor
      · intro hx
        refine ⟨.inr hx, fun e' => hn.1 ?_⟩
        rw [e, ← e']; exact List.mem_map.2 ⟨x, hx, rfl⟩
      · rintro ⟨rfl | h, h2⟩
        · exact absurd e h2
        · exact h
    · simp only [beq_iff_eq, e, if_false, List.mem_cons, ih hn.2]
      constructor
      · rintro (rfl | h)
        · exact ⟨.inl rfl, e⟩
        · exact ⟨.inr h.1, h.2⟩
      · rintro ⟨rfl | h, h2⟩
        · exact .inl rfl
        · exact .inr ⟨h, h2⟩

/-- contents when some of the crew have been told to forget a tid -/
noncomputable def retV (M : Nat → Option (Nat → Int)) (cr : Crew) (tid : Nat) (vis : Nat → Bool) : Nat → Option (Nat → Int) :=
  fun p => if ∃ j, ∃ h : j < cr.length, vis j = true ∧ cr[j].2.2 = p then (M p).map (fun f => upd f tid 0) else M p
theorem retV_start (M cr tid) : retV M cr tid (fun _ => false) = M := by
  funext p; unfold retV; rw [if_neg]; rintro ⟨j, h, v, _⟩; cases v
theorem retV_at {M : Nat → Option (Nat → Int)} {cr : Crew} {tid : Nat} {vis : Nat → Bool} (hn : (cr.map (·.2.2)).Nodup) {j : Nat} (hj : j < cr.length) (hv : vis j = false) : retV M cr tid vis cr[j].2.2 = M cr[j].2.2 := by
  unfold retV; rw [if_neg]
  rintro ⟨i, h, v, e⟩
  have := (List.getElem_inj (h₀ := by simpa using h) (h₁ := by simpa using hj) hn (i := i) (j := j)).1 (by simpa using e)
  subst this; rw [hv] at v; cases v
theorem retV_step {M : Nat → Option (Nat → Int)} {cr : Crew} {tid : Nat} {vis : Nat → Bool} {j : Nat} (hj : j < cr.length) {f : Nat → Int} (hM : M cr[j].2.2 = some f) :
    upd (retV M cr tid vis) cr[j].2.2 (some (upd f tid 0)) = retV M cr tid (upd vis j true) := by
  funext p
  by_cases e : p = cr[j].2.2
  · subst e
    rw [upd_same]; unfold retV
    rw [if_pos ⟨j, hj, by rw [upd_same], rfl⟩, hM]; rfl
  · rw [upd_ne _ _ e]; unfold retV
    have : (∃ i, ∃ h : i < cr.length, vis i = true ∧ cr[i].2.2 = p) ↔ (∃ i, ∃ h : i < cr.length, upd vis j true i = true ∧ cr[i].2.2 = p) := by
      constructor
      · rintro ⟨i, h, v, e'⟩; exact ⟨i, h, by unfold upd; split; rfl; exact v, e'⟩
      · rintro ⟨i, h, v, e'⟩
        by_cases ei : i = j
        · subst ei; exact absurd e'.symm e
        · rw [upd_ne _ _ ei] at v; exact ⟨i, h, v, e'⟩
    by_cases c : ∃ i, ∃ h : i < cr.length, vis i = true ∧ cr[i].2.2 = p
    · rw [if_pos c, if_pos (this.1 c)]
    · rw [if_neg c, if_neg (fun x => c (this.2 x))]
/-- contents behind a retirement -/
noncomputable def retM (M : Nat → Option (Nat → Int)) (cr : Crew) (tid : Nat) : Nat → Option (Nat → Int) := retV M cr tid (fun _ => true)
theorem retM_in {M : Nat → Option (Nat → Int)} {cr : Crew} {tid : Nat} {x : Int × Int × Nat} (hx : x ∈ cr) : retM M cr tid x.2.2 = (M x.2.2).map (fun f => upd f tid 0) := by
  obtain ⟨j, hj, rfl⟩ := List.getElem_of_mem hx
  unfold retM retV; rw [if_pos ⟨j, hj, rfl, rfl⟩]
theorem retM_out {M : Nat → Option (Nat → Int)} {cr : Crew} {tid p : Nat} (h : ∀ x ∈ cr, x.2.2 ≠ p) : retM M cr tid p = M p := by
  unfold retM retV; rw [if_neg]
  rintro ⟨j, hj, _, e⟩; exact h _ (List.getElem_mem hj) e
theorem retV_done {M : Nat → Option (Nat → Int)} {cr : Crew} {tid : Nat} {vis : Nat → Bool} (h : ∀ j, j < cr.length → vis j = true) : retV M cr tid vis = retM M cr tid := by
  funext p; unfold retM retV
  have : (∃ i, ∃ h : i < cr.length, vis i = true ∧ cr[i].2.2 = p) ↔ (∃ i, ∃ h : i < cr.length, true = true ∧ cr[i].2.2 = p) :=
    ⟨fun ⟨i, hi, _, e⟩ => ⟨i, hi, rfl, e⟩, fun ⟨i, hi, _, e⟩ => ⟨i, hi, h i hi, e⟩⟩
  by_cases c : ∃ i, ∃ h : i < cr.length, vis i = true ∧ cr[i].2.2 = p
  · rw [if_pos c, if_pos (this.1 c)]
  · rw [if_neg c, if_neg (fun x => c (this.2 x))]

/-- the rounds of Retire -/
structure RetR (w : World) (wp r : Nat) (t m : Int) (cr : Crew) (M : Nat → Option (Nat → Int)) (F : Nat → Prop) (tid it b5 : Nat) (vis : Nat → Bool) (c : Nat) (wr : World) (F' : Nat → Prop) : Prop where
  st : WSt wr wp r t m cr (retV M cr tid vis) F'
  it_ : MIt wr it r (crewL cr) vis c
  ni : ¬ F' it
  nb : ¬ F' b5
  sub : ∀ b, F' b → F b ∨ w.heap.size ≤ b
  fr : Fr (fun b => b = r ∨ F b) w wr
  c5 : wr.cell? ⟨b5, 0, none⟩ = some (.int .i64 tid)

theorem RetR.clk3 {w wr w3 : World} {wp r t m cr M F tid it b5 vis c F'} (h : RetR w wp r t m cr M F tid it b5 vis c wr F') (hO : Only it wr w3) (o : Obj) : Clks (w3.alloc o) (retV M cr tid vis) F' :=
  (h.st.clk.keep (fun b hb => hO.block b (by rintro rfl; exact h.ni hb)) (by rw [hO.size]; exact Nat.le_refl _)).alloc o

theorem RetR.step {w wr w3 w6 : World} {wp r t m cr M F tid it b5 vis c F'} (h : RetR w wp r t m cr M F tid it b5 vis c wr F') (hit : it ≠ b5) (hitr : it ≠ r) (hitw : it ≠ wp) (hitl : w.heap.size ≤ it) {j c' : Nat} (hj : j < cr.length) (hv : vis j = false) {f : Nat → Int} (hM : M cr[j].2.2 = some f)
    (hI : MIt w3 it r (crewL cr) (upd vis j true) c') (hO : Only it wr w3) {o : Obj}
    (hC : Clks w6 (upd (retV M cr tid vis) cr[j].2.2 (some (upd f tid 0))) (Gr F' (w3.alloc o) w6)) (hF : Fr F' (w3.alloc o) w6) :
    RetR w wp r t m cr M F tid it b5 (upd vis j true) c' w6 (Gr F' (w3.alloc o) w6) := by
  rw [retV_step hj hM] at hC
  have hs3 : (w3.alloc o).heap.size = wr.heap.size + 1 := by simp [hO.size]
  have st3 : WSt (w3.alloc o) wp r t m cr (retV M cr tid vis) F' := by
    refine (h.st.keep (fun b hb => hO.block b ?_) (by rw [hO.size]; exact Nat.le_refl _)).alloc _
    rintro rfl
    rcases hb with rfl | rfl | g
    · exact hitw rfl
    · exact hitr rfl
    · exact h.ni g
  have hlit := hI.ex
  obtain ⟨es, k, seen, i1, i2, _⟩ := hlit
  have hil := heap_lt i1
  have hrl := heap_lt i2.hd
  have hb5 : b5 < wr.heap.size := World.block_lt_of_cell? _ _ h.c5
  have hsw := h.fr.size
  refine ⟨st3.clocks hC hF ?_, hI.keep ?_ ?_, ?_, ?_, ?_, ?_, ?_⟩
  · intro x hx
    obtain ⟨f', hf'⟩ := h.st.cls x hx
    unfold retV at hf' ⊢
    split at hf'
    · rename_i hc
      obtain ⟨i, hi, v, e⟩ := hc
      rw [if_pos ⟨i, hi, by unfold upd; split; rfl; exact v, e⟩]; exact ⟨_, hf'⟩
    · rename_i hc
      by_cases c2 : ∃ i, ∃ h : i < cr.length, upd vis j true i = true ∧ cr[i].2.2 = x.2.2
      · rw [if_pos c2, hf']; exact ⟨_, rfl⟩
      · rw [if_neg c2]; exact ⟨_, hf'⟩
  · rw [hF.keep it (by simp; omega) h.ni, heap_alloc_lt _ _ hil]
  · rw [hF.keep r (by simp; omega) h.st.nr, heap_alloc_lt _ _ hrl]
  · rintro (g | g); exact h.ni g; simp at g; omega
  · rintro (g | g); exact h.nb g; rw [hs3] at g; omega
  · rintro b (g | g)
    · exact h.sub b g
    · rw [hs3] at g; exact .inr (by omega)
  · refine ((hO.fr h.fr (.inr hitl)).alloc o).trans hF ?_
    intro n g hn
    rcases h.sub n g with x | x
    · exact .inr x
    · omega
  · rw [cell_same (hF.keep b5 (by rw [hs3]; omega) h.nb), cell_same (heap_alloc_lt _ _ (by rw [hO.size]; omega)), hO.cell (Ne.symm hit)]
    exact h.c5

theorem RetR.done {w wr : World} {wp r t m cr M F tid it b5 vis c F'} (h : RetR w wp r t m cr M F tid it b5 vis c wr F') (hw : ∀ b, F b → b < w.heap.size) (hwp : wp < w.heap.size) (hr : r < w.heap.size) (nw : ¬ F wp) (nr : ¬ F r) (hv : ∀ j, j < cr.length → vis j = true) :
    WSt wr wp r t m cr (retM M cr tid) (Gr F w wr) ∧ Fr (fun b => b = r ∨ F b) w wr := by
  have st := h.st
  rw [retV_done hv] at st
  have hs := h.fr.size
  refine ⟨⟨st.clk.grow ?_ ?_, st.hd, st.mp, ?_, ?_, st.keys, st.tids, st.ptrs, st.rng, st.cls, st.tb, st.mb⟩, h.fr⟩
  · intro b g
    have := st.clk.fin b g
    rcases h.sub b g with x | x
    · exact .inl x
    · exact .inr ⟨x, this⟩
  · rintro b (g | g)
    · have := hw b g; omega
    · exact g.2
  · rintro (g | g); exact nw g; omega
  · rintro (g | g); exact nr g; omega
end Go.Proofs.Ytepdifajieegeaa
