/- The watch: Spawn, where it gives a tid. -/
import Derived.Test.YtepdifajieegeaaWatF
namespace Go.Proofs.Ytepdifajieegeaa
open Go.RowKit

theorem fr_cell {F : Nat → Prop} {w w' : World} (k : Fr F w w') : ∀ b i, b < w.heap.size → ¬ F b → w'.cell? ⟨b, i, none⟩ = w.cell? ⟨b, i, none⟩ := fun b i hb hF => cell_same (k.keep b hb hF) i
theorem fr_froz {F : Nat → Prop} {w w' : World} (k : Fr F w w') : ∀ b i, b < w.heap.size → ¬ F b → w'.frozen? ⟨b, i, none⟩ = w.frozen? ⟨b, i, none⟩ := fun b i hb hF => frozen_same (k.keep b hb hF) i

/-- behind the making of a new goroutine's tid and clock; k: where they stand -/
structure SpR (w : World) (wp r : Nat) (t m : Int) (cr : Crew) (M : Nat → Option (Nat → Int)) (F : Nat → Prop) (f : Nat → Int) (k n q : Nat) (wx : World) (F' : Nat → Prop) : Prop where
  st : WSt wx wp r t m cr (upd M q (some f)) F'
  fr : Fr F w wx
  sub : ∀ b, F' b → F b ∨ w.heap.size ≤ b
  nk : ¬ F' k
  hk : wx.heap[k]? = some (.cells #[.int .i64 n, ptr q] 60 (0, 0))
  lk : w.heap.size ≤ k
  lq : w.heap.size ≤ q

theorem SpR.of {w y w5 : World} {wp r t m cr M F f q} (h : WSt w wp r t m cr M F) (hY : Fr (fun _ => False) w y) (hq : y.heap.size ≤ q) (hC : Clks w5 (upd M q (some f)) (Gr F y w5)) (hF : Fr F y w5) :
    WSt w5 wp r t m cr (upd M q (some f)) (Gr F y w5) ∧ Fr F w w5 ∧ (∀ b, Gr F y w5 b → F b ∨ w.heap.size ≤ b) := by
  have hs := hY.size
  have hy := h.sil hY
  refine ⟨hy.clocks hC hF (fun x hx => ?_), (hY.mono (fun _ x => x.elim)).trans hF (fun _ g _ => g), ?_⟩
  · obtain ⟨g, hg⟩ := hy.cls x hx
    have := hy.clk.fin _ (hy.clk.at_ _ _ hg).1
    exact ⟨g, by rw [upd_ne _ _ (by omega)]; exact hg⟩
  · rintro b (g | g)
    · exact .inl g
    · exact .inr (by omega)

/-- the block was made behind the copy -/
theorem SpR.after {w y w5 : World} {wp r t m cr M F f n q} (h : WSt w wp r t m cr M F) (hY : Fr (fun _ => False) w y) (hq : y.heap.size ≤ q) (hC : Clks w5 (upd M q (some f)) (Gr F y w5)) (hF : Fr F y w5) :
    SpR w wp r t m cr M F f w5.heap.size n q (w5.alloc (.cells #[.int .i64 n, ptr q] 60)) (Gr F y w5) := by
  obtain ⟨a, b, c⟩ := SpR.of h hY hq hC hF
  have := hY.size
  have := b.size
  exact ⟨a.alloc _, b.alloc _, c, (fun g => by rcases g with g | g; have := h.clk.fin _ g; omega; omega), heap_alloc_at rfl, by omega, by omega⟩

/-- the block was made ahead of it -/
theorem SpR.ahead {w y w5 : World} {wp r t m cr M F f n q k} {a0 a1 : Value} (h : WSt w wp r t m cr M F) (hY : Fr (fun _ => False) w y) (hq : y.heap.size ≤ q) (hC : Clks w5 (upd M q (some f)) (Gr F y w5)) (hF : Fr F y w5)
    (hk : y.heap[k]? = some (.cells #[a0, a1] 60 (0, 0))) (hkw : w.heap.size ≤ k) :
    SpR w wp r t m cr M F f k n q ((w5.setCell ⟨k, 0, none⟩ (.int .i64 n)).setCell ⟨k, 1, none⟩ (ptr q)) (Gr F y w5) := by
  obtain ⟨a, b, c⟩ := SpR.of h hY hq hC hF
  have hkl := heap_lt hk
  have nFk : ¬ F k := fun g => by have := h.clk.fin _ g; omega
  have hk5 := (hF.keep k hkl nFk).trans hk
  have h1 := heap_setCell_eq hk5 0 (.int .i64 n)
  have h2 := heap_setCell_eq h1 1 (ptr q)
  have hs := hY.size
  have nG : ¬ Gr F y w5 k := by
    rintro (g | g)
    · exact nFk g
    · omega
  refine ⟨a.keep ?_ (by simp), (b.setCell (.inr hkw) _).setCell (.inr hkw) _, c, nG, by simpa using h2, hkw, by omega⟩
  intro b' hb'
  have hne : b' ≠ k := by
    rintro rfl
    rcases hb' with rfl | rfl | g
    · have := heap_lt h.hd; omega
    · obtain ⟨es, kk, hm⟩ := h.mp; have := heap_lt hm.hd; omega
    · exact nG g
  rw [heap_setCell_ne _ _ _ hne, heap_setCell_ne _ _ _ hne]

theorem IsFree.lt {cr : Crew} {n : Nat} {t : Int} (h : IsFree cr n) (hl : (cr.length : Int) < t) : (n : Int) < t := by
  have hs : (List.range n).map (fun i : Nat => (i : Int)) ⊆ cr.map (·.2.1) := by
    intro x hx
    obtain ⟨i, hi, rfl⟩ := List.mem_map.1 hx
    obtain ⟨y, hy, e⟩ := h.2 i (by simpa using hi)
    exact List.mem_map.2 ⟨y, hy, e⟩
  have hd : ((List.range n).map (fun i : Nat => (i : Int))).Nodup := by
    rw [List.nodup_iff_pairwise_ne, List.pairwise_map]
    exact (List.nodup_range (n := n)).imp (fun hne e => hne (by omega))
  have := hd.length_le_of_subset hs
  simp at this
  omega

theorem spawn_end {w wx w6 w7 : World} {wp r : Nat} {t m : Int} {cr : Crew} {M F f k n q F'} {g : Int} {es' : Array MapEntry} {k' : Nat} (h : WSt w wp r t m cr M F) (hS : SpR w wp r t m cr M F f k n q wx F')
    (hC6 : Clks w6 (upd (upd M q (some f)) q (some (upd f n 1))) (Gr F' wx w6)) (hF6 : Fr F' wx w6) (hO : Only r w6.drew w7) (hI7 : IMap w7 r (put (crewL cr) g (oneV n q)) es' k') (hg : lk cr g = none) (hfree : IsFree cr n) (hn : (n : Int) < t) :
    WSt w7 wp r t m (cr ++ [(g, (n : Int), q)]) (upd M q (some (upd f n 1))) (Gr F w w7) ∧ Fr (fun b => b = r ∨ F b) w w7 := by
  have hkeys := lk_none hg
  have hs6 : wx.heap.size ≤ w6.heap.size := hF6.size
  have hs7 : w7.heap.size = w6.heap.size := hO.size
  obtain ⟨es, kk, hm⟩ := h.mp
  have hrl := heap_lt hm.hd
  have hwl := heap_lt h.hd
  have hwr := h.wr
  have hswx := hS.fr.size
  have e : upd (upd M q (some f)) q (some (upd f n 1)) = upd M q (some (upd f n 1)) := by
    funext x; unfold upd; split <;> rfl
  rw [e] at hC6
  have hrG : ¬ Gr F' wx w6 r := by
    rintro (g' | g')
    · exact hS.st.nr g'
    · omega
  have hwG : ¬ Gr F' wx w6 wp := by
    rintro (g' | g')
    · exact hS.st.nw g'
    · omega
  have hC7 : Clks w7 (upd M q (some (upd f n 1))) (Gr F' wx w6) := hC6.keep (fun b hb => by
    have hb' : b ≠ r := fun e => hrG (e ▸ hb)
    exact hO.block b hb') (by omega)
  have hw6 : w6.heap[wp]? = wx.heap[wp]? := hF6.keep wp (by omega) hS.st.nw
  have hFr : Fr (fun b => b = r ∨ F b) w w7 := by
    have a1 : Fr (fun b => b = r ∨ F b) w wx := hS.fr.mono (fun _ x _ => .inr x)
    have a2 : Fr (fun b => b = r ∨ F b) w w6 := a1.trans hF6 (fun b hb hbw => by
      rcases hS.sub b hb with x | x
      · exact .inr x
      · omega)
    exact hO.fr (a2.drew) (.inl (.inl rfl))
  have hMq : M q = none := by
    cases hh : M q with
    | none => rfl
    | some f' => have := h.clk.fin _ (h.clk.at_ _ _ hh).1; have := hS.lq; omega
  have hins : ∀ x ∈ cr, x.2.2 ≠ q := by
    intro x hx e'
    obtain ⟨f', hf'⟩ := h.cls x hx
    rw [e', hMq] at hf'; cases hf'
  refine ⟨⟨hC7.grow ?_ ?_, ?_, ⟨es', k', ?_⟩, ?_, ?_, ?_, ?_, ?_, ?_, ?_, h.tb, h.mb⟩, hFr⟩
  · rintro b (x | x)
    · have := hS.st.clk.fin b x
      rcases hS.sub b x with y | y
      · exact .inl y
      · exact .inr (by omega)
    · exact .inr (by omega)
  · rintro b (x | x)
    · have := h.clk.fin b x; omega
    · omega
  · rw [hO.block wp hwr]
    exact hw6.trans hS.st.hd
  · have hp : put (crewL cr) g (oneV n q) = crewL (cr ++ [(g, (n : Int), q)]) := by
      rw [put_new (by simpa [crewL] using hkeys)]; simp [crewL]
    rw [← hp]; exact hI7
  · rintro (x | x); exact h.nw x; omega
  · rintro (x | x); exact h.nr x; omega
  · rw [List.map_append, List.nodup_append]
    refine ⟨h.keys, by simp, ?_⟩
    intro a ha b hb
    simp at hb; subst hb
    rintro rfl; exact hkeys ha
  · rw [List.map_append, List.nodup_append]
    refine ⟨h.tids, by simp, ?_⟩
    intro a ha b hb
    simp at hb; subst hb
    rintro rfl
    obtain ⟨x, hx, e'⟩ := List.mem_map.1 ha
    exact hfree.1 x hx e'
  · rw [List.map_append, List.nodup_append]
    refine ⟨h.ptrs, by simp, ?_⟩
    intro a ha b hb
    simp at hb; subst hb
    rintro rfl
    obtain ⟨x, hx, e'⟩ := List.mem_map.1 ha
    exact hins x hx e'
  · intro x hx
    rcases List.mem_append.1 hx with hx | hx
    · exact h.rng x hx
    · simp at hx; subst hx; exact ⟨by simp, hn⟩
  · intro x hx
    rcases List.mem_append.1 hx with hx | hx
    · obtain ⟨f', hf'⟩ := h.cls x hx
      exact ⟨f', by rw [upd_ne _ _ (hins x hx)]; exact hf'⟩
    · simp at hx; subst hx; exact ⟨_, upd_same _ _ _⟩

end Go.Proofs.Ytepdifajieegeaa
