/- Clocks in the heap: what they hold, which share memory; plain facts. No condition. -/
import Derived.Test.YtepdifajieegeaaBase
namespace Go.Proofs.Ytepdifajieegeaa
open Go.RowKit

/-- the clock at block p: its numbers are f; sh: its flag; bk: its array's block -/
structure ClkAt (w : World) (p : Nat) (f : Nat → Int) (sh : Bool) (bk : Option Nat) (xs : List Int) (cap : Nat) : Prop where
  hd : w.heap[p]? = some (.cells #[.slice (bk.map fun b => ⟨b, 0, none⟩) xs.length cap, .bool sh] 69 (0, 0))
  bd : ∀ b, bk = some b → ∃ arr, w.heap[b]? = some (.cells arr 3 (0, 0)) ∧ ∀ i, (h : i < xs.length) → arr[i]? = some (.int .i64 xs[i])
  nl : bk = none → xs = [] ∧ cap = 0
  val : ∀ i, f i = xs.getD i 0
  len : xs.length ≤ 256
  cle : xs.length ≤ cap
  rng : ∀ x ∈ xs, 0 ≤ x ∧ x ≤ 1048576

/-- a clock's head cell, and its array's -/
theorem ClkAt.cells {w p f sh bk xs cap} (h : ClkAt w p f sh bk xs cap) :
    (bk = none ∧ xs = [] ∧ cap = 0 ∧ (∀ i, f i = 0) ∧ w.cell? ⟨p, 0, none⟩ = some (.slice none 0 0)) ∨
    (∃ b, bk = some b ∧ w.cell? ⟨p, 0, none⟩ = some (.slice (some ⟨b, 0, none⟩) xs.length cap) ∧ (∀ i, (hi : i < xs.length) → w.cell? ⟨b, i, none⟩ = some (.int .i64 xs[i]) ∧ f i = xs[i]) ∧ (∀ i, xs.length ≤ i → f i = 0) ∧ (∀ i, w.frozen? ⟨b, i, none⟩ = false)) := by
  have c0 := cell_blk h.hd 0
  simp only [List.getElem?_toArray, List.getElem?_cons_zero] at c0
  cases bk with
  | none =>
    obtain ⟨rfl, rfl⟩ := h.nl rfl
    exact .inl ⟨rfl, rfl, rfl, fun i => by rw [h.val i]; rfl, c0⟩
  | some b =>
    obtain ⟨arr, ha, hx⟩ := h.bd b rfl
    refine .inr ⟨b, rfl, c0, fun i hi => ⟨(cell_blk ha i).trans (hx i hi), ?_⟩, fun i hi => ?_, fun i => froz_blk ha i⟩
    · rw [h.val i, List.getD_eq_getElem?_getD, List.getElem?_eq_getElem hi]; rfl
    · rw [h.val i, List.getD_eq_getElem?_getD, List.getElem?_eq_none hi]; rfl
theorem ClkAt.src {w p f sh bk xs cap} (h : ClkAt w p f sh bk xs cap) :
    ∃ sp, w.cell? ⟨p, 0, none⟩ = some (.slice sp xs.length cap) ∧ ∀ i, (hi : i < xs.length) → ∃ b off, sp = some ⟨b, off, none⟩ ∧ b < w.heap.size ∧ w.cell? ⟨b, off + i, none⟩ = some (.int .i64 xs[i]) := by
  have c0 := cell_blk h.hd 0
  simp only [List.getElem?_toArray, List.getElem?_cons_zero] at c0
  refine ⟨_, c0, fun i hi => ?_⟩
  cases bk with
  | none => rw [(h.nl rfl).1] at hi; simp at hi
  | some b =>
    obtain ⟨arr, ha, hx⟩ := h.bd b rfl
    exact ⟨b, 0, rfl, heap_lt ha, by rw [Nat.zero_add]; exact (cell_blk ha i).trans (hx i hi)⟩
theorem ClkAt.c0b {w p f sh b xs cap} (h : ClkAt w p f sh (some b) xs cap) : w.cell? ⟨p, 0, none⟩ = some (.slice (some ⟨b, 0, none⟩) xs.length cap) := by
  have c0 := cell_blk h.hd 0
  simpa using c0
theorem ClkAt.cb {w p f sh b xs cap} (h : ClkAt w p f sh (some b) xs cap) {i : Nat} (hi : i < xs.length) : w.cell? ⟨b, i, none⟩ = some (.int .i64 xs[i]) := by
  obtain ⟨arr, ha, hx⟩ := h.bd b rfl
  exact (cell_blk ha i).trans (hx i hi)
theorem ClkAt.fb {w p f sh b xs cap} (h : ClkAt w p f sh (some b) xs cap) (i : Nat) : w.frozen? ⟨b, i, none⟩ = false := by
  obtain ⟨arr, ha, _⟩ := h.bd b rfl
  exact froz_blk ha i
theorem ClkAt.c1 {w p f sh bk xs cap} (h : ClkAt w p f sh bk xs cap) : w.cell? ⟨p, 1, none⟩ = some (.bool sh) := by
  have c0 := cell_blk h.hd 1
  simpa using c0
theorem ClkAt.fz {w p f sh bk xs cap} (h : ClkAt w p f sh bk xs cap) (i : Nat) : w.frozen? ⟨p, i, none⟩ = false := froz_blk h.hd i

structure Clks (w : World) (M : Nat → Option (Nat → Int)) (F : Nat → Prop) : Prop where
  at_ : ∀ p f, M p = some f → F p ∧ ∃ sh bk xs cap, ClkAt w p f sh bk xs cap ∧ ∀ b, bk = some b → F b
  sep : ∀ p q f g sh sh' b xs ys c c', p ≠ q → M p = some f → M q = some g → ClkAt w p f sh (some b) xs c → ClkAt w q g sh' (some b) ys c' → sh = true
  fin : ∀ b, F b → b < w.heap.size

theorem ClkAt.rngf {w p f sh bk xs cap} (h : ClkAt w p f sh bk xs cap) (i : Nat) : 0 ≤ f i ∧ f i ≤ 1048576 := by
  rw [h.val i, List.getD_eq_getElem?_getD]
  by_cases hi : i < xs.length
  · rw [List.getElem?_eq_getElem hi]; exact h.rng _ (List.getElem_mem hi)
  · rw [List.getElem?_eq_none (by omega)]; simp
theorem ClkAt.out {w p f sh bk xs cap} (h : ClkAt w p f sh bk xs cap) {i : Nat} (hi : xs.length ≤ i) : f i = 0 := by
  rw [h.val i, List.getD_eq_getElem?_getD, List.getElem?_eq_none hi]; rfl
theorem ClkAt.inn {w p f sh bk xs cap} (h : ClkAt w p f sh bk xs cap) {i : Nat} (hi : i < xs.length) : f i = xs[i] := by
  rw [h.val i, List.getD_eq_getElem?_getD, List.getElem?_eq_getElem hi]; rfl

/-- a clock's head decides all but its numbers -/
theorem ClkAt.uniq {w p f g sh sh' bk bk' xs ys cap cap'} (h : ClkAt w p f sh bk xs cap) (k : ClkAt w p g sh' bk' ys cap') : sh = sh' ∧ bk = bk' ∧ xs = ys ∧ cap = cap' ∧ f = g := by
  have e := h.hd.symm.trans k.hd
  simp only [Option.some.injEq, Obj.cells.injEq, Array.mk.injEq, List.cons.injEq, Value.slice.injEq, Value.bool.injEq] at e
  obtain ⟨⟨⟨e1, e2, e3⟩, e4, _⟩, _⟩ := e
  have eb : bk = bk' := by
    cases bk <;> cases bk' <;> simp_all
  subst eb; subst e4; subst e3
  have ex : xs = ys := by
    cases bk with
    | none => rw [(h.nl rfl).1, (k.nl rfl).1]
    | some b =>
      obtain ⟨arr, ha, hx⟩ := h.bd b rfl
      obtain ⟨arr', ha', hy⟩ := k.bd b rfl
      rw [ha] at ha'; cases ha'
      refine List.ext_getElem e2 fun i h1 h2 => ?_
      have := (hx i h1).symm.trans (hy i h2)
      simpa using this
  subst ex
  refine ⟨rfl, rfl, rfl, rfl, ?_⟩
  funext i; rw [h.val, k.val]

theorem ClkAt.keep {w w' p f sh bk xs cap} (h : ClkAt w p f sh bk xs cap) (hp : w'.heap[p]? = w.heap[p]?) (hb : ∀ b, bk = some b → w'.heap[b]? = w.heap[b]?) : ClkAt w' p f sh bk xs cap :=
  ⟨by rw [hp]; exact h.hd, fun b e => by rw [hb b e]; exact h.bd b e, h.nl, h.val, h.len, h.cle, h.rng⟩

theorem Clks.keep {w w' M F} (h : Clks w M F) (hF : ∀ b, F b → w'.heap[b]? = w.heap[b]?) (hs : w.heap.size ≤ w'.heap.size) : Clks w' M F := by
  have back : ∀ p f sh bk xs cap, M p = some f → ClkAt w' p f sh bk xs cap → ClkAt w p f sh bk xs cap := by
    intro p f sh bk xs cap hp k
    obtain ⟨fp, sh0, bk0, xs0, cap0, h0, hb0⟩ := h.at_ p f hp
    obtain ⟨rfl, rfl, rfl, rfl, _⟩ := (h0.keep (hF p fp) (fun b e => hF b (hb0 b e))).uniq k
    exact h0
  refine ⟨?_, ?_, fun b f => Nat.lt_of_lt_of_le (h.fin b f) hs⟩
  · intro p f hp
    obtain ⟨fp, sh0, bk0, xs0, cap0, h0, hb0⟩ := h.at_ p f hp
    exact ⟨fp, sh0, bk0, xs0, cap0, h0.keep (hF p fp) (fun b e => hF b (hb0 b e)), hb0⟩
  · intro p q f g sh sh' b xs ys c c' hne hp hq k1 k2
    exact h.sep p q f g sh sh' b xs ys c c' hne hp hq (back _ _ _ _ _ _ hp k1) (back _ _ _ _ _ _ hq k2)

theorem Clks.frame {w w' M F G} (h : Clks w M F) (k : Fr G w w') (hd : ∀ b, F b → ¬ G b) : Clks w' M F :=
  h.keep (fun b f => k.keep b (h.fin b f) (hd b f)) k.size
theorem ClkAt.drew {w p f sh bk xs cap} (h : ClkAt w p f sh bk xs cap) : ClkAt w.drew p f sh bk xs cap := h.keep rfl (fun _ _ => rfl)
theorem Clks.drew {w M F} (h : Clks w M F) : Clks w.drew M F := h.keep (fun _ _ => rfl) (Nat.le_refl _)
theorem Clks.alloc {w M F} (h : Clks w M F) (o : Obj) : Clks (w.alloc o) M F := h.keep (fun b f => heap_alloc_lt _ _ (h.fin b f)) (by simp)
theorem Clks.grow {w M F G} (h : Clks w M F) (hFG : ∀ b, F b → G b) (hG : ∀ b, G b → b < w.heap.size) : Clks w M G :=
  ⟨fun p f hp => by
    obtain ⟨a, sh, bk, xs, cap, b, c⟩ := h.at_ p f hp
    exact ⟨hFG _ a, sh, bk, xs, cap, b, fun n e => hFG _ (c n e)⟩, h.sep, hG⟩
theorem Clks.gr {w w' M F} (h : Clks w' M F) (hs : ∀ b, F b → b < w.heap.size) (hw : w.heap.size ≤ w'.heap.size) : Clks w' M (Gr F w w') :=
  h.grow (fun _ => .inl) (fun b f => by rcases f with f | f; exact Nat.lt_of_lt_of_le (hs b f) hw; exact f.2)
theorem Clks.sub {w M N F} (h : Clks w M F) (hN : ∀ p f, N p = some f → M p = some f) : Clks w N F :=
  ⟨fun p f hp => h.at_ p f (hN p f hp), fun p q f g sh sh' b xs ys c c' ne hp hq => h.sep p q f g sh sh' b xs ys c c' ne (hN _ _ hp) (hN _ _ hq), h.fin⟩

/-- a new clock -/
theorem Clks.new {w M F p f sh bk xs cap} (h : Clks w M F) (hp : ClkAt w p f sh bk xs cap) (hF : F p) (hb : ∀ b, bk = some b → F b) (hM : M p = none)
    (hs : ∀ q g sh' b ys c, M q = some g → bk = some b → ClkAt w q g sh' (some b) ys c → sh = true ∧ sh' = true) : Clks w (upd M p (some f)) F := by
  refine ⟨?_, ?_, h.fin⟩
  · intro q g hq
    by_cases e : q = p
    · subst e; rw [upd_same] at hq; cases hq; exact ⟨hF, sh, bk, xs, cap, hp, hb⟩
    · rw [upd_ne _ _ e] at hq; exact h.at_ q g hq
  · intro q r g g' s s' b ys zs c c' hne hq hr k1 k2
    by_cases e : q = p
    · subst e; rw [upd_same] at hq; cases hq
      rw [upd_ne _ _ (Ne.symm hne)] at hr
      obtain ⟨rfl, rfl, _⟩ := hp.uniq k1
      exact (hs r g' s' b zs c' hr rfl k2).1
    · rw [upd_ne _ _ e] at hq
      by_cases e' : r = p
      · subst e'
        rw [upd_same] at hr; cases hr
        obtain ⟨rfl, rfl, _⟩ := hp.uniq k2
        exact (hs q g s b ys c hq rfl k1).2
      · rw [upd_ne _ _ e'] at hr; exact h.sep q r g g' s s' b ys zs c c' hne hq hr k1 k2

/-- one clock turned: its head and its own array; the others as they were -/
theorem Clks.turn {w w' M F p f g sh bk xs cap} (h : Clks w M F) (hM : M p = some f) (hp : ClkAt w' p g sh bk xs cap) (hb : ∀ b, bk = some b → F b)
    (hfin : w.heap.size ≤ w'.heap.size)
    (ho : ∀ q k s b' ys c, q ≠ p → M q = some k → ClkAt w q k s b' ys c → ClkAt w' q k s b' ys c ∧ (∀ b, bk = some b → b' = some b → sh = true ∧ s = true)) : Clks w' (upd M p (some g)) F := by
  have back : ∀ q k s b' ys c, q ≠ p → M q = some k → ClkAt w' q k s b' ys c → ClkAt w q k s b' ys c := by
    intro q k s b' ys c hne hq hk
    obtain ⟨_, s0, b0, y0, c0, h0, _⟩ := h.at_ q k hq
    obtain ⟨rfl, rfl, rfl, rfl, _⟩ := (ho q k s0 b0 y0 c0 hne hq h0).1.uniq hk
    exact h0
  refine ⟨?_, ?_, fun b fb => Nat.lt_of_lt_of_le (h.fin b fb) hfin⟩
  · intro q k hq
    by_cases e : q = p
    · subst e; rw [upd_same] at hq; cases hq; exact ⟨(h.at_ _ _ hM).1, sh, bk, xs, cap, hp, hb⟩
    · rw [upd_ne _ _ e] at hq
      obtain ⟨fq, s0, b0, y0, c0, h0, hb0⟩ := h.at_ q k hq
      exact ⟨fq, s0, b0, y0, c0, (ho q k s0 b0 y0 c0 e hq h0).1, hb0⟩
  · intro q r k k' s s' b ys zs c c' hne hq hr k1 k2
    by_cases e : q = p
    · subst e; rw [upd_same] at hq; cases hq
      rw [upd_ne _ _ (Ne.symm hne)] at hr
      obtain ⟨rfl, rfl, _⟩ := hp.uniq k1
      exact ((ho r k' s' (some b) zs c' (Ne.symm hne) hr (back _ _ _ _ _ _ (Ne.symm hne) hr k2)).2 b rfl rfl).1
    · rw [upd_ne _ _ e] at hq
      by_cases e' : r = p
      · subst e'
        rw [upd_same] at hr; cases hr
        obtain ⟨rfl, rfl, _⟩ := hp.uniq k2
        exact ((ho q k s (some b) ys c e hq (back _ _ _ _ _ _ e hq k1)).2 b rfl rfl).2
      · rw [upd_ne _ _ e'] at hr
        exact h.sep q r k k' s s' b ys zs c c' hne hq hr (back _ _ _ _ _ _ e hq k1) (back _ _ _ _ _ _ e' hr k2)

/-- a clock's block is no array's block -/
theorem ClkAt.ne {w p f sh bk xs cap} (h : ClkAt w p f sh bk xs cap) {b : Nat} {arr : Array Value} {z : Nat × Nat} (hb : w.heap[b]? = some (.cells arr 3 z)) : b ≠ p := by
  rintro rfl
  have := h.hd.symm.trans hb
  simp at this

/-- a store into a clock's own array -/
theorem Clks.store {w M F p f b xs cap} (h : Clks w M F) (hM : M p = some f) (hp : ClkAt w p f false (some b) xs cap) {t : Nat} (ht : t < xs.length) {n : Int} (h0 : 0 ≤ n) (h1 : n ≤ 1048576) :
    Clks (w.setCell ⟨b, t, none⟩ (.int .i64 n)) (upd M p (some (upd f t n))) F ∧ ClkAt (w.setCell ⟨b, t, none⟩ (.int .i64 n)) p (upd f t n) false (some b) (xs.set t n) cap := by
  obtain ⟨arr, ha, hx⟩ := hp.bd b rfl
  have hpb : b ≠ p := hp.ne ha
  have hp' : ClkAt (w.setCell ⟨b, t, none⟩ (.int .i64 n)) p (upd f t n) false (some b) (xs.set t n) cap := by
    refine ⟨?_, ?_, by simp, ?_, by simpa using hp.len, by simpa using hp.cle, ?_⟩
    · rw [heap_setCell_ne _ _ _ (Ne.symm hpb)]; simpa using hp.hd
    · rintro b' e; cases e
      refine ⟨_, heap_setCell_eq ha t _, ?_⟩
      intro i hi
      rw [Array.getElem?_setIfInBounds]
      have hi' : i < xs.length := by simpa using hi
      have := hx i hi'
      have hia : i < arr.size := by
        rcases Nat.lt_or_ge i arr.size with g | g
        · exact g
        · simp [Array.getElem?_eq_none g] at this
      by_cases e : t = i
      · subst e; simp [hia]
      · rw [if_neg e, this, List.getElem_set_ne e]
    · intro i
      simp only [upd, List.getD_eq_getElem?_getD, List.getElem?_set]
      by_cases e : i = t
      · subst e; simp [ht]
      · rw [if_neg e, if_neg (Ne.symm e)]; rw [hp.val i, List.getD_eq_getElem?_getD]
    · intro x hx
      rcases List.mem_or_eq_of_mem_set hx with g | g
      · exact hp.rng x g
      · subst g; exact ⟨h0, h1⟩
  refine ⟨h.turn hM hp' ?_ (by simp) ?_, hp'⟩
  · rintro b' e; cases e
    obtain ⟨_, sh0, bk0, xs0, cap0, k0, hb0⟩ := h.at_ p f hM
    obtain ⟨rfl, rfl, _⟩ := hp.uniq k0
    exact hb0 b rfl
  · intro q k s b' ys c hne hq hk
    have hnb : b' ≠ some b := by
      rintro rfl
      have := h.sep p q f k false s b xs ys cap c (Ne.symm hne) hM hq hp hk
      cases this
    refine ⟨hk.keep (heap_setCell_ne _ _ _ (Ne.symm (hk.ne ha))) ?_, fun b0 e e' => absurd e' (by cases e; exact hnb)⟩
    rintro b0 rfl
    exact heap_setCell_ne _ _ _ (by rintro rfl; exact hnb rfl)

theorem upd_id {α β : Type} [DecidableEq α] {f : α → β} {a : α} {b : β} (h : f a = b) : upd f a b = f := by
  funext x; unfold upd; split
  · rename_i e; rw [e, h]
  · rfl

/-- a clock gets an array of its own -/
theorem Clks.ownNew {w w1 : World} {M F p f sh bk xs cap} (h : Clks w M F) (hM : M p = some f) (hp : ClkAt w p f sh bk xs cap) (hb : Below w.heap.size w w1)
    {g : Nat} (hg : w.heap.size ≤ g) {arr : Array Value} (ha : w1.heap[g]? = some (.cells arr 3 (0, 0))) {n : Nat} (hn : xs.length ≤ n) (hn2 : n ≤ 256)
    (harr : ∀ i, i < n → arr[i]? = some (.int .i64 (xs.getD i 0))) :
    Clks ((w1.setCell ⟨p, 0, none⟩ (.slice (some ⟨g, 0, none⟩) n n)).setCell ⟨p, 1, none⟩ (.bool false)) M (Gr F w w1) ∧
    ClkAt ((w1.setCell ⟨p, 0, none⟩ (.slice (some ⟨g, 0, none⟩) n n)).setCell ⟨p, 1, none⟩ (.bool false)) p f false (some g) ((List.range n).map fun i => xs.getD i 0) n ∧
    Fr F w ((w1.setCell ⟨p, 0, none⟩ (.slice (some ⟨g, 0, none⟩) n n)).setCell ⟨p, 1, none⟩ (.bool false)) := by
  have fp := (h.at_ p f hM).1
  have hpl : p < w.heap.size := heap_lt hp.hd
  have hgp : g ≠ p := by omega
  have hd1 : w1.heap[p]? = _ := (hb.block p hpl).trans hp.hd
  have hd2 := heap_setCell_eq hd1 0 (.slice (some ⟨g, 0, none⟩) n n)
  have hd3 := heap_setCell_eq hd2 1 (.bool false)
  have g3 : ((w1.setCell ⟨p, 0, none⟩ (.slice (some ⟨g, 0, none⟩) n n)).setCell ⟨p, 1, none⟩ (.bool false)).heap[g]? = some (.cells arr 3 (0, 0)) := by
    rw [heap_setCell_ne _ _ _ hgp, heap_setCell_ne _ _ _ hgp, ha]
  have hfr : Fr F w ((w1.setCell ⟨p, 0, none⟩ (.slice (some ⟨g, 0, none⟩) n n)).setCell ⟨p, 1, none⟩ (.bool false)) :=
    (((Fr.ofBelow hb F).setCell (.inl fp) _).setCell (.inl fp) _)
  have hp' : ClkAt ((w1.setCell ⟨p, 0, none⟩ (.slice (some ⟨g, 0, none⟩) n n)).setCell ⟨p, 1, none⟩ (.bool false)) p f false (some g) ((List.range n).map fun i => xs.getD i 0) n := by
    refine ⟨?_, ?_, by simp, ?_, by simpa using hn2, by simp, ?_⟩
    · rw [hd3]; simp
    · rintro b e; cases e
      refine ⟨arr, g3, fun i hi => ?_⟩
      have hi' : i < n := by simpa using hi
      rw [harr i hi']; simp
    · intro i
      rw [hp.val i]
      by_cases hi : i < n
      · simp [List.getD_eq_getElem?_getD, hi]
      · have hr : (List.range n)[i]? = none := List.getElem?_eq_none (by simp; omega)
        simp [List.getD_eq_getElem?_getD, List.getElem?_eq_none (show xs.length ≤ i by omega), hr]
    · intro x hx
      obtain ⟨i, _, rfl⟩ := List.mem_map.1 hx
      have := hp.rngf i
      rwa [hp.val i] at this
  have hkeep : ∀ b, b < w.heap.size → b ≠ p → ((w1.setCell ⟨p, 0, none⟩ (.slice (some ⟨g, 0, none⟩) n n)).setCell ⟨p, 1, none⟩ (.bool false)).heap[b]? = w.heap[b]? := by
    intro b hb1 hb2
    rw [heap_setCell_ne _ _ _ hb2, heap_setCell_ne _ _ _ hb2, hb.block b hb1]
  have hC0 : Clks w M (Gr F w w) := by rw [Gr.self]; exact h
  refine ⟨?_, hp', hfr⟩
  have hgl : g < w1.heap.size := heap_lt ha
  have key : Clks ((w1.setCell ⟨p, 0, none⟩ (.slice (some ⟨g, 0, none⟩) n n)).setCell ⟨p, 1, none⟩ (.bool false)) (upd M p (some f)) (Gr F w w1) := by
    refine ⟨?_, ?_, ?_⟩
    · intro q k hq
      by_cases e : q = p
      · subst e; rw [upd_same] at hq; cases hq
        exact ⟨.inl fp, _, _, _, _, hp', fun b e => by cases e; exact .inr ⟨hg, hgl⟩⟩
      · rw [upd_ne _ _ e] at hq
        obtain ⟨fq, s0, b0, y0, c0, h0, hb0⟩ := h.at_ q k hq
        exact ⟨.inl fq, s0, b0, y0, c0, h0.keep (hkeep q (h.fin q fq) e) (fun b eb => hkeep b (h.fin b (hb0 b eb)) (by
          subst eb
          obtain ⟨arr', ha', _⟩ := h0.bd b rfl
          exact hp.ne ha')), fun b eb => .inl (hb0 b eb)⟩
    · have back : ∀ q k s b' ys c, q ≠ p → M q = some k → ClkAt ((w1.setCell ⟨p, 0, none⟩ (.slice (some ⟨g, 0, none⟩) n n)).setCell ⟨p, 1, none⟩ (.bool false)) q k s b' ys c → ClkAt w q k s b' ys c ∧ b' ≠ some g := by
        intro q k s b' ys c hne hq hk
        obtain ⟨fq, s0, b0, y0, c0, h0, hb0⟩ := h.at_ q k hq
        obtain ⟨rfl, rfl, rfl, rfl, _⟩ := (h0.keep (hkeep q (h.fin q fq) hne) (fun b eb => hkeep b (h.fin b (hb0 b eb)) (by
          subst eb
          obtain ⟨arr', ha', _⟩ := h0.bd b rfl
          exact hp.ne ha'))).uniq hk
        exact ⟨h0, fun e => by have := h.fin g (hb0 g e); omega⟩
      intro q r k k' s s' b ys zs c c' hne hq hr k1 k2
      by_cases e : q = p
      · subst e; rw [upd_same] at hq; cases hq
        rw [upd_ne _ _ (Ne.symm hne)] at hr
        obtain ⟨_, e1, _⟩ := hp'.uniq k1
        cases e1
        exact absurd rfl (back r k' s' (some g) zs c' (Ne.symm hne) hr k2).2
      · rw [upd_ne _ _ e] at hq
        by_cases e' : r = p
        · subst e'; rw [upd_same] at hr; cases hr
          obtain ⟨_, e1, _⟩ := hp'.uniq k2
          cases e1
          exact absurd rfl (back q k s (some g) ys c e hq k1).2
        · rw [upd_ne _ _ e'] at hr
          exact h.sep q r k k' s s' b ys zs c c' hne hq hr (back q k s _ ys c e hq k1).1 (back r k' s' _ zs c' e' hr k2).1
    · rintro b (fb | fb)
      · have := h.fin b fb; have := hb.size; simp; omega
      · simpa using fb.2
  rwa [upd_id hM] at key
end Go.Proofs.Ytepdifajieegeaa
