/- The watch and the reference's watch side by side: what a step leaves. No condition. -/
import Derived.Test.YtepdifajieegeaaSysB
namespace Go.Proofs.Ytepdifajieegeaa
open Go.RowKit

/-- both watches, apart -/
structure Duo (w0 w : World) (wp r xp : Nat) (t m : Int) (cr : Crew) (M : Nat → Option (Nat → Int)) (F : Nat → Prop) (L : List (Int × Int)) (G : Nat → Prop) : Prop where
  ws : WS w0 w wp r t m cr M F
  rt : RSt w xp t m L G
  dis : ∀ b, G b → ¬ WF wp r F b
  fin : ∀ b, G b → b < w.heap.size
  nG : New w0 G
def crL (cr : Crew) : List (Int × Int) := cr.map fun x => (x.1, x.2.1)

theorem Duo.sil {w0 w w' wp r xp t m cr M F L G} (h : Duo w0 w wp r xp t m cr M F L G) (k : Fr (fun _ => False) w w') : Duo w0 w' wp r xp t m cr M F L G :=
  ⟨h.ws.sil k, h.rt.sil k, h.dis, fun b hb => Nat.lt_of_lt_of_le (h.fin b hb) k.size, h.nG⟩
theorem Duo.wturn {w0 w w' wp r xp t m cr M F L G cr' M' F'} (h : Duo w0 w wp r xp t m cr M F L G) (k : Turn w0 w w' wp r t m F cr' M' F') : Duo w0 w' wp r xp t m cr' M' F' L G := by
  refine ⟨k.ws, h.rt.keep (fun b hb hl => k.fr.keep b hl (fun e => h.dis b hb ?_)), fun b hb e => ?_, fun b hb => Nat.lt_of_lt_of_le (h.fin b hb) k.fr.size, h.nG⟩
  · rcases e with e | e
    · exact .inr (.inl e)
    · exact .inr (.inr e)
  · rcases e with e | e | e
    · exact h.dis b hb (.inl e)
    · exact h.dis b hb (.inr (.inl e))
    · rcases k.sub b e with x | x
      · exact h.dis b hb (.inr (.inr x))
      · have := h.fin b hb; omega
theorem Duo.xturn {w0 w w' wp r xp t m cr M F L G L'} (h : Duo w0 w wp r xp t m cr M F L G) (hr : RSt w' xp t m L' (Gr G w w')) (k : Fr G w w') : Duo w0 w' wp r xp t m cr M F L' (Gr G w w') := by
  have hlt := h.ws.st.lt
  have h0 := h.ws.fr.size
  refine ⟨⟨h.ws.st.keep (fun b hb => k.keep b (hlt b hb) (fun g => h.dis b g hb)) k.size, h.ws.kn, h.ws.wf, h.ws.nw, h.ws.fr.trans k (fun b g hb => ?_)⟩, hr, fun b hb e => ?_, fun b hb => ?_, fun b hb => ?_⟩
  · have := h.nG b g; omega
  · rcases hb with g | g
    · exact h.dis b g e
    · have := hlt b e; omega
  · rcases hb with g | g
    · exact Nat.lt_of_lt_of_le (h.fin b g) k.size
    · exact g.2
  · rcases hb with g | g
    · exact h.nG b g
    · omega
theorem Duo.xturn' {w0 w w' wp r xp t m cr M F L G} (h : Duo w0 w wp r xp t m cr M F L G) (hr : RSt w' xp t m L G) (k : Fr G w w') : Duo w0 w' wp r xp t m cr M F L (Gr G w w') :=
  h.xturn (hr.mono fun b g _ => .inl g) k

theorem lk_some_mem {cr : Crew} {g : Int} (h : lk cr g ≠ none) : ∃ x ∈ cr, x.1 = g := by
  cases e : lk cr g with
  | none => exact absurd e h
  | some y => exact ⟨_, lk_mem e, rfl⟩
theorem lk_none_mem {cr : Crew} {g : Int} (h : lk cr g = none) : ∀ x ∈ cr, x.1 ≠ g := fun x hx e => lk_none h (List.mem_map.2 ⟨x, hx, e⟩)
theorem lk_of_mem {cr : Crew} (hk : (cr.map (·.1)).Nodup) {x : Int × Int × Nat} (hx : x ∈ cr) : lk cr x.1 = some x.2 := by
  cases e : lk cr x.1 with
  | none => exact absurd rfl (lk_none_mem e x hx)
  | some y =>
    have hy := lk_mem e
    obtain ⟨i, hi, rfl⟩ := List.getElem_of_mem hx
    obtain ⟨j, hj, e'⟩ := List.getElem_of_mem hy
    have := (List.getElem_inj (h₀ := by simpa using hi) (h₁ := by simpa using hj) hk (i := i) (j := j)).1 (by simp [e'])
    subst this
    rw [e']

theorem cover_len : ∀ (t : Nat) (l : List Int), (∀ j : Nat, j < t → (j : Int) ∈ l) → t ≤ l.length
  | 0, _, _ => Nat.zero_le _
  | t + 1, l, h => by
    have ht := h t (by omega)
    have h1 := cover_len t (l.erase (t : Int)) (fun j hj => (List.mem_erase_of_ne (by omega)).2 (h j (by omega)))
    rw [List.length_erase_of_mem ht] at h1
    have := List.length_pos_of_mem ht
    omega

theorem perm_spawn {w wp r t m cr M F} (h : WSt w wp r t m cr M F) {L : List (Int × Int)} (hp : L.Perm (crL cr)) {p g : Int} {cr' : Crew} {L' : List (Int × Int)} (hc : SpawnC cr t p g cr') (hl : SpawnL L t p g L') : L'.Perm (crL cr') := by
  have htb := h.tb
  have mem : ∀ a b, (a, b) ∈ L ↔ ∃ x ∈ cr, x.1 = a ∧ x.2.1 = b := fun a b => by
    rw [hp.mem_iff]
    simp only [crL, List.mem_map, Prod.mk.injEq]
  have len : ∀ {l : List Int}, l.Nodup → (∀ x ∈ l, 0 ≤ x ∧ x < t) → (l.length : Int) ≤ t := fun hn hr => by
    have := nodup_len t.toNat _ hn (fun x hx => by have := hr x hx; omega)
    omega
  rcases hc with ⟨rfl, hb⟩ | ⟨n, q, rfl, c1, c2, c3, c4, c5, c6⟩
  · rcases hl with ⟨rfl, _⟩ | ⟨u, _, ⟨x, hx, l1⟩, l2, l3, l4, l5, l6, _⟩
    · exact hp
    · exfalso
      obtain ⟨y, hy, y1, y2⟩ := (mem x.1 x.2).1 hx
      rcases hb with b | b | b | b
      · exact lk_none_mem b y hy (y1.trans l1)
      · omega
      · obtain ⟨z, hz, z1⟩ := lk_some_mem b
        exact l3 (z.1, z.2.1) ((mem _ _).2 ⟨z, hz, rfl, rfl⟩) z1
      · have := len (l := u :: cr'.map (·.2.1)) (List.nodup_cons.2 ⟨fun hm => by
          obtain ⟨z, hz, e⟩ := List.mem_map.1 hm
          exact l6 (z.1, z.2.1) ((mem _ _).2 ⟨z, hz, rfl, rfl⟩) e, h.tids⟩) (fun v hv => by
          rcases List.mem_cons.1 hv with rfl | hv
          · exact ⟨l4, l5⟩
          · obtain ⟨z, hz, rfl⟩ := List.mem_map.1 hv
            exact h.rng z hz)
        simp at this
        omega
  · rcases hl with ⟨rfl, hb⟩ | ⟨u, rfl, _, _, _, l4, l5, l6, l7⟩
    · exfalso
      obtain ⟨y, hy, y1⟩ := lk_some_mem c1
      rcases hb with b | b | ⟨x, hx, b⟩ | b
      · exact b (y.1, y.2.1) ((mem _ _).2 ⟨y, hy, rfl, rfl⟩) y1
      · omega
      · obtain ⟨z, hz, z1, z2⟩ := (mem x.1 x.2).1 hx
        exact lk_none_mem c3 z hz (z1.trans b)
      · obtain ⟨x, hx, e⟩ := b n (by omega) c6
        obtain ⟨z, hz, z1, z2⟩ := (mem x.1 x.2).1 hx
        exact c5.1 z hz (z2.trans e)
    · have hu : u = (n : Int) := by
        rcases Int.lt_trichotomy u n with e | e | e
        · obtain ⟨z, hz, z1⟩ := c5.2 u.toNat (by omega)
          exact absurd (show z.2.1 = u by omega) (l6 (z.1, z.2.1) ((mem _ _).2 ⟨z, hz, rfl, rfl⟩))
        · exact e
        · obtain ⟨x, hx, e'⟩ := l7 n (by omega) e
          obtain ⟨z, hz, z1, z2⟩ := (mem x.1 x.2).1 hx
          exact absurd (z2.trans e') (c5.1 z hz)
      subst hu
      simp only [crL, List.map_append, List.map_cons, List.map_nil]
      exact hp.append_right _

theorem delC_filter {cr : Crew} (hk : (cr.map (·.1)).Nodup) (g : Int) : delC cr g = cr.filter fun x => x.1 != g := by
  induction cr with
  | nil => rfl
  | cons x cr ih =>
    simp only [List.map_cons, List.nodup_cons] at hk
    by_cases e : x.1 = g
    · rw [delC, if_pos (by simpa using e), List.filter_cons_of_neg (by simp [e])]
      refine (List.filter_eq_self.2 fun y hy => ?_).symm
      simp only [bne_iff_ne, ne_eq]
      intro e'
      exact hk.1 (List.mem_map.2 ⟨y, hy, e'.trans e.symm⟩)
    · rw [delC, if_neg (by simpa using e), List.filter_cons_of_pos (by simpa using e), ih hk.2]
theorem perm_retire {w wp r t m cr M F} (h : WSt w wp r t m cr M F) {L : List (Int × Int)} (hp : L.Perm (crL cr)) (g : Int) : (L.filter (notG g)).Perm (crL (delC cr g)) := by
  rw [delC_filter h.keys]
  have := hp.filter (notG g)
  rw [crL, List.filter_map] at this
  exact this
theorem Duo.len {w0 w wp r xp t m cr M F L G} (h : Duo w0 w wp r xp t m cr M F L G) (hp : L.Perm (crL cr)) : L.length ≤ 256 := by
  have h1 := hp.length_eq
  have h2 := h.ws.st.len
  have h3 := h.ws.st.tb
  simp only [crL, List.length_map] at h1
  omega
/-- who is there -/
theorem perm_at {cr : Crew} {L : List (Int × Int)} (hp : L.Perm (crL cr)) (g : Int) : (atL L g 0 < 0 ∧ lk cr g = none) ∨ (0 ≤ atL L g 0 ∧ lk cr g ≠ none) := by
  rcases atL_spec g L 0 with ⟨h1, h2⟩ | ⟨k, hk, h1, h2⟩
  · refine .inl ⟨by omega, ?_⟩
    cases e : lk cr g with
    | none => rfl
    | some y =>
      have := (hp.mem_iff (a := (g, y.1))).2 (List.mem_map.2 ⟨_, lk_mem e, rfl⟩)
      exact absurd rfl (h2 _ this)
  · refine .inr ⟨by omega, fun e => ?_⟩
    have := hp.mem_iff.1 (List.getElem_mem hk)
    obtain ⟨x, hx, e'⟩ := List.mem_map.1 this
    refine lk_none_mem e x hx ?_
    rw [← h2, ← e']
end Go.Proofs.Ytepdifajieegeaa
