/- The watch and the reference's watch side by side: who knows what. No condition. -/
import Derived.Test.YtepdifajieegeaaRefL
import Derived.Test.YtepdifajieegeaaAll
import Derived.Test.YtepdifajieegeaaTwo
namespace Go.Proofs.Ytepdifajieegeaa
open Go.RowKit

/-- numbers that are at most the owners' own, 0 of who is not there -/
def Bel (cr : Crew) (M : Nat → Option (Nat → Int)) (h : Nat → Int) : Prop :=
  (∀ x ∈ cr, ∀ f, M x.2.2 = some f → ∀ j : Nat, x.2.1 = (j : Int) → h j ≤ f j) ∧ ∀ j : Nat, (∀ x ∈ cr, x.2.1 ≠ (j : Int)) → h j = 0
def Kn (cr : Crew) (M : Nat → Option (Nat → Int)) : Prop := ∀ y ∈ cr, ∀ g, M y.2.2 = some g → Bel cr M g

theorem WSt.new_ne {w wp r t m cr M F} (h : WSt w wp r t m cr M F) {q : Nat} (hq : w.heap.size ≤ q) : ∀ x ∈ cr, x.2.2 ≠ q := by
  intro x hx e
  obtain ⟨f, hf⟩ := h.cls x hx
  have := h.clk.fin _ (h.clk.at_ _ _ hf).1
  omega
theorem WSt.tids_eq {w wp r t m cr M F} (h : WSt w wp r t m cr M F) {x y : Int × Int × Nat} (hx : x ∈ cr) (hy : y ∈ cr) (e : x.2.1 = y.2.1) : x = y := by
  obtain ⟨i, hi, rfl⟩ := List.getElem_of_mem hx
  obtain ⟨j, hj, rfl⟩ := List.getElem_of_mem hy
  have := (List.getElem_inj (h₀ := by simpa using hi) (h₁ := by simpa using hj) h.tids (i := i) (j := j)).1 (by simpa using e)
  subst this; rfl
theorem WSt.ptrs_eq {w wp r t m cr M F} (h : WSt w wp r t m cr M F) {x y : Int × Int × Nat} (hx : x ∈ cr) (hy : y ∈ cr) (e : x.2.2 = y.2.2) : x = y := by
  obtain ⟨i, hi, rfl⟩ := List.getElem_of_mem hx
  obtain ⟨j, hj, rfl⟩ := List.getElem_of_mem hy
  have := (List.getElem_inj (h₀ := by simpa using hi) (h₁ := by simpa using hj) h.ptrs (i := i) (j := j)).1 (by simpa using e)
  subst this; rfl

theorem Bel.congr {cr M M'} {h : Nat → Int} (k : Bel cr M h) (e : ∀ x ∈ cr, M' x.2.2 = M x.2.2) : Bel cr M' h :=
  ⟨fun x hx f hf => k.1 x hx f ((e x hx).symm.trans hf), k.2⟩
theorem Kn.congr {cr M M'} (k : Kn cr M) (e : ∀ x ∈ cr, M' x.2.2 = M x.2.2) : Kn cr M' :=
  fun y hy g hg => (k y hy g ((e y hy).symm.trans hg)).congr e
/-- a clock beside the crew -/
theorem Kn.beside {cr M} (k : Kn cr M) {q : Nat} (f : Option (Nat → Int)) (hq : ∀ x ∈ cr, x.2.2 ≠ q) : Kn cr (upd M q f) :=
  k.congr fun x hx => upd_ne _ _ (hq x hx)

/-- one's own clock grows -/
theorem Bel.up {w wp r t m cr M F} (h : WSt w wp r t m cr M F) {a : Int × Int × Nat} (ha : a ∈ cr) {f f' : Nat → Int} (hf : M a.2.2 = some f) (hu : ∀ j : Nat, a.2.1 = (j : Int) → f j ≤ f' j) {g : Nat → Int} (k : Bel cr M g) :
    Bel cr (upd M a.2.2 (some f')) g := by
  refine ⟨fun x hx f2 hf2 j hj => ?_, k.2⟩
  by_cases e : x.2.2 = a.2.2
  · obtain rfl := h.ptrs_eq hx ha e
    rw [upd_same] at hf2
    cases hf2
    exact Int.le_trans (k.1 x hx f hf j hj) (hu j hj)
  · rw [upd_ne _ _ e] at hf2
    exact k.1 x hx f2 hf2 j hj
theorem Kn.turn {w wp r t m cr M F} (h : WSt w wp r t m cr M F) (k : Kn cr M) {a : Int × Int × Nat} (ha : a ∈ cr) {f f' : Nat → Int} (hf : M a.2.2 = some f) (hu : ∀ j : Nat, a.2.1 = (j : Int) → f j ≤ f' j)
    (hb : Bel cr (upd M a.2.2 (some f')) f') : Kn cr (upd M a.2.2 (some f')) := by
  intro y hy g hg
  by_cases e : y.2.2 = a.2.2
  · rw [e, upd_same] at hg
    cases hg
    exact hb
  · rw [upd_ne _ _ e] at hg
    exact (k y hy g hg).up h ha hf hu

theorem Kn.know {w wp r t m cr M F} (h : WSt w wp r t m cr M F) (k : Kn cr M) {a : Int × Int × Nat} (ha : a ∈ cr) {f fq : Nat → Int} (hf : M a.2.2 = some f) (hq : Bel cr M fq) :
    Kn cr (upd M a.2.2 (some (mxf f fq))) := by
  have hm : ∀ j, f j ≤ mxf f fq j := fun j => by unfold mxf; split <;> omega
  have ka := k a ha f hf
  refine k.turn h ha hf (fun j _ => hm j) (Bel.up h ha hf (fun j _ => hm j) ⟨fun x hx f2 hf2 j hj => ?_, fun j hj => ?_⟩)
  · have h1 := ka.1 x hx f2 hf2 j hj
    have h2 := hq.1 x hx f2 hf2 j hj
    unfold mxf; split <;> omega
  · have h1 := ka.2 j hj
    have h2 := hq.2 j hj
    unfold mxf; split <;> omega
theorem Kn.tick {w wp r t m cr M F} (h : WSt w wp r t m cr M F) (k : Kn cr M) {g : Int} {tid c : Nat} (ha : (g, (tid : Int), c) ∈ cr) {f : Nat → Int} (hf : M c = some f) :
    Kn cr (upd M c (some (upd f tid (f tid + 1)))) ∧ Bel cr (upd M c (some (upd f tid (f tid + 1)))) f := by
  have hm : ∀ j : Nat, (tid : Int) = (j : Int) → f j ≤ upd f tid (f tid + 1) j := fun j e => by
    obtain rfl : tid = j := by omega
    rw [upd_same]; omega
  have ka := k _ ha f hf
  refine ⟨k.turn h ha hf hm ⟨fun x hx f2 hf2 j hj => ?_, fun j hj => ?_⟩, ka.up h ha hf hm⟩
  · by_cases e : x.2.2 = c
    · have hf2' : f2 = upd f tid (f tid + 1) := by rw [e, upd_same] at hf2; cases hf2; rfl
      rw [hf2']; exact Int.le_refl _
    · rw [upd_ne _ _ e] at hf2
      have hne : j ≠ tid := by
        rintro rfl
        have := h.tids_eq hx ha hj
        rw [this] at e; exact e rfl
      rw [upd_ne _ _ hne]
      exact ka.1 x hx f2 hf2 j hj
  · have hne : j ≠ tid := by rintro rfl; exact hj _ ha rfl
    rw [upd_ne _ _ hne]
    exact ka.2 j hj
theorem Kn.spawn {w wp r t m cr M F} (h : WSt w wp r t m cr M F) (k : Kn cr M) {p tid : Int} {c : Nat} (hp : (p, tid, c) ∈ cr) {f : Nat → Int} (hf : M c = some f) {n q : Nat} (hfree : IsFree cr n) (hq : ∀ x ∈ cr, x.2.2 ≠ q) (g : Int) :
    Kn (cr ++ [(g, (n : Int), q)]) (upd M q (some (upd f n 1))) := by
  have kp := k _ hp f hf
  have h0 := kp.2 n hfree.1
  intro y hy gy hg
  rcases List.mem_append.1 hy with hy | hy
  · rw [upd_ne _ _ (hq y hy)] at hg
    have ky := k y hy gy hg
    refine ⟨fun x hx f2 hf2 j hj => ?_, fun j hj => ky.2 j fun x hx => hj x (List.mem_append_left _ hx)⟩
    rcases List.mem_append.1 hx with hx | hx
    · rw [upd_ne _ _ (hq x hx)] at hf2
      exact ky.1 x hx f2 hf2 j hj
    · simp at hx; subst hx
      rw [upd_same] at hf2; cases hf2
      obtain rfl : n = j := by simp at hj; omega
      rw [upd_same, ky.2 n hfree.1]; omega
  · simp at hy; subst hy
    rw [upd_same] at hg; cases hg
    refine ⟨fun x hx f2 hf2 j hj => ?_, fun j hj => ?_⟩
    · rcases List.mem_append.1 hx with hx1 | hx1
      · rw [upd_ne _ _ (hq x hx1)] at hf2
        have hne : j ≠ n := fun e => hfree.1 x hx1 (by rw [hj, e])
        rw [upd_ne _ _ hne]
        exact kp.1 x hx1 f2 hf2 j hj
      · simp at hx1; subst hx1
        rw [upd_same] at hf2; cases hf2
        exact Int.le_refl _
    · have hne : j ≠ n := fun e => hj (g, (n : Int), q) (List.mem_append_right _ (by simp)) (by simp only; omega)
      rw [upd_ne _ _ hne]
      exact kp.2 j fun x hx => hj x (List.mem_append_left _ hx)
theorem Kn.retire {w wp r t m cr M F} (h : WSt w wp r t m cr M F) (k : Kn cr M) {g : Int} {tid c : Nat} (ha : (g, (tid : Int), c) ∈ cr) : Kn (delC cr g) (retM M (delC cr g) tid) := by
  intro y hy gy hg
  rw [retM_in hy] at hg
  obtain ⟨g0, hg0, rfl⟩ := Option.map_eq_some_iff.1 hg
  have hy' := (delC_mem h.keys y).1 hy
  have ky := k y hy'.1 g0 hg0
  refine ⟨fun x hx f2 hf2 j hj => ?_, fun j hj => ?_⟩
  · rw [retM_in hx] at hf2
    obtain ⟨f0, hf0, rfl⟩ := Option.map_eq_some_iff.1 hf2
    have hx' := (delC_mem h.keys x).1 hx
    have hne : j ≠ tid := by
      rintro rfl
      have := h.tids_eq hx'.1 ha hj
      exact hx'.2 (by rw [this])
    rw [upd_ne _ _ hne, upd_ne _ _ hne]
    exact ky.1 x hx'.1 f0 hf0 j hj
  · by_cases e : j = tid
    · subst e; rw [upd_same]
    · rw [upd_ne _ _ e]
      refine ky.2 j fun x hx => ?_
      by_cases hxg : x.1 = g
      · have : x = (g, (tid : Int), c) := by
          obtain ⟨i, hi, rfl⟩ := List.getElem_of_mem hx
          obtain ⟨i', hi', e'⟩ := List.getElem_of_mem ha
          have := (List.getElem_inj (h₀ := by simpa using hi) (h₁ := by simpa using hi') h.keys (i := i) (j := i')).1 (by simp [e', hxg])
          subst this; exact e'
        rw [this]; simp only; omega
      · exact hj x ((delC_mem h.keys x).2 ⟨hx, hxg⟩)

/-- the watch and what is known in it -/
structure WS (w0 w : World) (wp r : Nat) (t m : Int) (cr : Crew) (M : Nat → Option (Nat → Int)) (F : Nat → Prop) : Prop where
  st : WSt w wp r t m cr M F
  kn : Kn cr M
  wf : ∀ x ∈ cr, (Lit.int .i64 x.1).wf = true
  nw : New w0 (WF wp r F)
  fr : Fr (fun _ => False) w0 w
/-- what a call that turns the watch leaves -/
structure Turn (w0 w w' : World) (wp r : Nat) (t m : Int) (F : Nat → Prop) (cr' : Crew) (M' : Nat → Option (Nat → Int)) (F' : Nat → Prop) : Prop where
  ws : WS w0 w' wp r t m cr' M' F'
  fr : Fr (fun b => b = r ∨ F b) w w'
  sub : ∀ b, F' b → F b ∨ w.heap.size ≤ b

theorem WS.sil {w0 w w' wp r t m cr M F} (h : WS w0 w wp r t m cr M F) (k : Fr (fun _ => False) w w') : WS w0 w' wp r t m cr M F :=
  ⟨h.st.sil k, h.kn, h.wf, h.nw, h.fr.trans k (fun _ f _ => f)⟩
theorem WS.same {w0 w w' wp r t m cr M F} (h : WS w0 w wp r t m cr M F) (k : Fr (fun _ => False) w w') : Turn w0 w w' wp r t m F cr M F :=
  ⟨h.sil k, k.mono (fun _ x _ => x.elim), fun _ => .inl⟩
theorem WS.turn {w0 w w' wp r t m cr M F cr' M'} (h : WS w0 w wp r t m cr M F) (hs : WSt w' wp r t m cr' M' (Gr F w w')) (hF : Fr (fun b => b = r ∨ F b) w w') (hk : Kn cr' M') (hwf : ∀ x ∈ cr', (Lit.int .i64 x.1).wf = true) :
    Turn w0 w w' wp r t m F cr' M' (Gr F w w') := by
  have h0 := h.fr.size
  refine ⟨⟨hs, hk, hwf, ?_, h.fr.trans hF (fun b hb hlt => ?_)⟩, hF, fun b hb => by rcases hb with g | g; exact .inl g; exact .inr g.1⟩
  · rintro b (rfl | rfl | hb | hb)
    · exact h.nw _ (.inl rfl)
    · exact h.nw _ (.inr (.inl rfl))
    · exact h.nw _ (.inr (.inr hb))
    · omega
  · have : w0.heap.size ≤ b := h.nw b (by rcases hb with g | g; exact .inr (.inl g); exact .inr (.inr g))
    omega
end Go.Proofs.Ytepdifajieegeaa
