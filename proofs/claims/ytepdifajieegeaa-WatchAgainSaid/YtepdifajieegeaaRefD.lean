/- The reference's watch: Can. No condition. -/
import Derived.Test.YtepdifajieegeaaRefC
namespace Go.Proofs.Ytepdifajieegeaa
open Go.RowKit

theorem atL_spec (g : Int) : ∀ (L : List (Int × Int)) (i : Nat), (atL L g i = -1 ∧ ∀ x ∈ L, x.1 ≠ g) ∨ ∃ k, ∃ h : k < L.length, atL L g i = ((i + k : Nat) : Int) ∧ L[k].1 = g
  | [], i => .inl ⟨rfl, fun x hx => by cases hx⟩
  | x :: L, i => by
    by_cases h : x.1 = g
    · exact .inr ⟨0, by simp, by simp [atL, h], by simpa using h⟩
    · rcases atL_spec g L (i + 1) with ⟨h1, h2⟩ | ⟨k, hk, h1, h2⟩
      · refine .inl ⟨by simp [atL, h, h1], fun y hy => ?_⟩
        rcases List.mem_cons.1 hy with rfl | hy
        · exact h
        · exact h2 y hy
      · exact .inr ⟨k + 1, by simpa using hk, by simp only [atL, if_neg h, h1]; congr 1; omega, by simpa using h2⟩

theorem ownsRow_blk {w : World} {base : Nat} {e size : Nat} {v : Value} {n : Nat} {xs : List Value} (h : w.ownsRow base e size v n xs) {w' : World} (hk : ∀ b, v.ownBlock = some b → b < w.heap.size → w'.heap[b]? = w.heap[b]?) : w'.ownsRow base e size v n xs := by
  refine ⟨h.1, ?_⟩
  rcases h.2 with h0 | ⟨g, cap, cur, rfl, hg, hh, r⟩
  · exact .inl h0
  · exact .inr ⟨g, cap, cur, rfl, hg, (hk g rfl (heap_lt hh)).trans hh, r⟩
theorem RSt.keep {w w' xp T M L G} (h : RSt w xp T M L G) (hk : ∀ b, G b → b < w.heap.size → w'.heap[b]? = w.heap[b]?) : RSt w' xp T M L G := by
  obtain ⟨v, xs, hd, ho, hx, hb⟩ := h.st
  exact ⟨⟨v, xs, (hk xp h.gx (heap_lt hd)).trans hd, ownsRow_blk ho (fun b e hl => hk b (hb b e).1 hl), hx, hb⟩, h.gx, h.len⟩
theorem RSt.sil {w w' xp T M L G} (h : RSt w xp T M L G) (k : Fr (fun _ => False) w w') : RSt w' xp T M L G :=
  h.keep fun b _ hl => k.keep b hl (fun x => x)
theorem RSt.mono {w xp T M L} {G G' : Nat → Prop} (h : RSt w xp T M L G) (hg : ∀ b, G b → b < w.heap.size → G' b) : RSt w xp T M L G' := by
  obtain ⟨v, xs, hd, ho, hx, hb⟩ := h.st
  refine ⟨⟨v, xs, hd, ho, hx, fun b e => ⟨hg b (hb b e).1 ?_, (hb b e).2⟩⟩, hg xp h.gx (heap_lt hd), h.len⟩
  rcases ho.2 with ⟨rfl, _⟩ | ⟨g, cap, cur, rfl, _, hh, _⟩
  · cases e
  · cases e; exact heap_lt hh
theorem RSt.lt {w xp T M L G} (h : RSt w xp T M L G) : xp < w.heap.size := by
  obtain ⟨v, xs, hd, _⟩ := h.st; exact heap_lt hd

/-- all that a reader of the k-th one needs -/
structure RAt (w : World) (xp : Nat) (T M : Int) (L : List (Int × Int)) (G : Nat → Prop) (k : Nat) (rb cap : Nat) (E : List Value) (x : Int × Int) : Prop where
  c0 : w.cell? ⟨xp, 0, none⟩ = some (.int .i64 T)
  c1 : w.cell? ⟨xp, 1, none⟩ = some (.int .i64 M)
  c2 : w.cell? ⟨xp, 2, none⟩ = some (.slice (some ⟨rb, 0, none⟩) L.length cap)
  lt : rb < w.heap.size
  g : G rb
  ne : rb ≠ xp
  one : OneC w rb (k * 258) x E
  ct : w.cell? ⟨rb, k * 258 + 1, none⟩ = some (.int .i64 x.2)
  fr : ∀ i, w.frozen? ⟨rb, i, none⟩ = false
theorem RSt.at_ {w xp T M L G} (h : RSt w xp T M L G) {k : Nat} (hk : k < L.length) {x : Int × Int} (hx : L[k] = x) : ∃ rb cap E, RAt w xp T M L G k rb cap E x := by
  subst hx
  obtain ⟨v, c0, c1, c2, _, hv⟩ := h.cells
  rcases hv with ⟨rfl, rfl⟩ | ⟨rb, cap, rfl, hrb, hg, hne, xs, hX, hR, hfr⟩
  · simp at hk
  · have := hX.one hR hk
    exact ⟨rb, cap, el xs k, c0, c1, c2, hrb, hg, hne, this, this.at_ 1 _ this.t, hfr⟩
/-- the clock of one -/
theorem OneC.clk {w b o x E} (h : OneC w b o x E) : w.rangeAt b (o + 2) (E.drop 2) ∧ (E.drop 2).length = 256 ∧ CL (E.drop 2).toArray := by
  refine ⟨fun j u hu => ?_, by simp [h.len], by simp [h.len], fun j hj => ?_⟩
  · have := h.at_ (2 + j) u (by simpa using hu)
    rwa [Nat.add_assoc]
  · obtain ⟨z, hz⟩ := h.c (2 + j) (by omega)
    exact ⟨z, by simpa using hz⟩
theorem CL.one {a : Array Value} (h : CL a) : a.all (·.oneCell') = true := by
  refine Array.all_eq_true_iff_forall_mem.2 fun u hu => ?_
  obtain ⟨j, hj, e⟩ := Array.getElem_of_mem hu
  obtain ⟨z, hz⟩ := h.2 j (by have := h.1; omega)
  rw [Array.getElem?_eq_getElem hj, e] at hz
  cases hz
  rfl

/-- all that a copy of the k-th clock needs -/
theorem RSt.clk {P : Program} {w xp T M L G} (h : RSt w xp T M L G) {k : Nat} (hk : k < L.length) {Z : Array Value} (hz : CL Z) (hi : (P.info? 72).map (·.size) = some 256) :
    ∃ rb cap D, w.cell? ⟨xp, 2, none⟩ = some (.slice (some ⟨rb, 0, none⟩) L.length cap) ∧ Hid (w.rangeAt rb (k * 258 + 2) D) ∧ Hid (CL D.toArray) ∧ (P.info? 72).map (·.size) = some D.length ∧ Hid (Z.size = D.toArray.size) := by
  obtain ⟨rb, cap, E, R⟩ := h.at_ hk rfl
  obtain ⟨r1, r2, r3⟩ := R.one.clk
  exact ⟨rb, cap, E.drop 2, R.c2, r1, r3, by rw [r2]; exact hi, by rw [r3.1]; exact hz.1⟩

/-- a store of a whole struct into the block that was made last; the world behind it is any -/
theorem wpList_store_new' {P : Program} {ops : Array Oper} {rest : List Oper} {o : Oper} {a : Act} {Q : Exit → Act → World → Prop} (hgd : o.guard = none) (ty : TypeId) (x y : Operand) (ho : o.op = .store ty x y)
    (w0 : World) (Z cells : Array Value) (hx : a.eval x = .pointer (some ⟨w0.heap.size, 0, none⟩)) (hy : a.eval y = .agg cells)
    (hi : (P.info? ty).map (·.size) = some cells.size) (hold : Z.size = cells.size) (h1 : cells.all (·.oneCell') = true)
    (h : ∀ w2, Hid (w2 = w0.alloc (.cells cells ty)) → wpList P ops Q rest (a.put o.dst undef) w2) : wpList P ops Q (o :: rest) a (w0.alloc (.cells Z ty)) :=
  wpList_store_new hgd ty x y ho w0 Z cells hx hy hi hold h1 (h _ rfl)

def BoolRet (w : World) (e : Ending) (w' : World) : Prop := (∃ b, e = .returned (.bool b)) ∧ Fr (fun _ => False) w w'

set_option maxRecDepth 100000 in
set_option maxHeartbeats 1000000 in
theorem rcan_any {w xp T M L G} (h : RSt w xp T M L G) (g : Int) : Calls Try.prog 51 #[ptr xp, .int .i64 g] w (BoolRet w) := by
  have cA := rat_any h g
  rcases atL_spec g L 0 with ⟨h1, _⟩ | ⟨k, hk, h1, hg⟩
  · rw [h1] at cA
    go_enter Try.func51, Try.ntmps51
    go_wp2_with (go_at_call 21; refine cA.mono ?_; rintro e w1 ⟨rfl, hs⟩)
    go_ret
    exact ⟨⟨_, rfl⟩, hs⟩
  · rw [h1] at cA
    simp only [Nat.zero_add] at cA
    obtain ⟨Z, hz, hzs, hi⟩ := zero72
    obtain ⟨x, hx⟩ : ∃ x, L[k] = x := ⟨_, rfl⟩
    have H := hid h
    clear h h1
    go_enter Try.func51, Try.ntmps51
    go_upto_region 4 with (go_at_call 21; refine cA.mono ?_; rintro e w1 ⟨rfl, hs⟩)
    have H1 := hid (H.out.sil hs)
    have HS := hid hs
    clear hs cA
    obtain ⟨rb, cap, D, c2, R1, R3, hi', HZ⟩ := H1.out.clk hk hzs hi
    go_upto_region 5 with (first
      | (refine wpList_load_mid (op := ⟨some 19, _, _, _, _, _⟩) rfl 72 _ rfl rb (k * 258 + 2) rfl D _ R1.out Try.underlying72 rfl hi' ?_)
      | (refine wpList_store_new' (o := ⟨none, _, _, _, _, _⟩) rfl 72 _ _ rfl w1 Z D.toArray rfl rfl (by simpa using hi') HZ.out R3.out.one ?_; intro w2 e2))
    have HC : CB w2 w1.heap.size := by rw [e2.out]; exact CB.alloc_new R3.out
    have hs2 : Fr (fun _ => False) w1 w2 := by rw [e2.out]; exact (Fr.refl _ _).alloc _
    have H2 := H1.out.sil hs2
    have HS2 := hid (HS.out.trans hs2 (fun _ f _ => f))
    obtain ⟨rb', cap', E', R⟩ := H2.at_ hk hx
    have c1 := R.c1
    have c2' := R.c2
    have c3 := R.ct
    have HCC := hid HC
    clear R c2 R1 R3 hi' HZ e2 HC hs2 H2
    go_wp2_with fail
    obtain ⟨z, hz⟩ := rget_any HCC.out x.2
    have HG := hid hz
    clear hz
    go_quiet ((go_at_call 57; exact quiet_eq (HG.out _ rfl)))
    go_wp2_with fail
    go_ret
    exact ⟨⟨_, rfl⟩, HS2.out.drewN _⟩
end Go.Proofs.Ytepdifajieegeaa
