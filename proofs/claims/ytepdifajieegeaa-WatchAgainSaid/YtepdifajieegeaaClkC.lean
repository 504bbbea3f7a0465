/- Clocks: the methods that write. -/
import Derived.Test.YtepdifajieegeaaClkB
namespace Go.Proofs.Ytepdifajieegeaa
open Go.RowKit

/-- M' and F' behind a call that changed a clock system's contents -/
def ClkPost (w : World) (F : Nat → Prop) (M' : Nat → Option (Nat → Int)) (r : Ending) (e : Ending) (w' : World) : Prop :=
  e = r ∧ Clks w' M' (Gr F w w') ∧ Fr F w w'

theorem set_end {w w1 : World} {M F p f b xs cap t} (hM : M p = some f) (hp : ClkAt w1 p f false (some b) xs cap) (hC : Clks w1 M (Gr F w w1)) (hF : Fr F w w1) (ht : t < xs.length) {n : Int} (h0 : 0 ≤ n) (h1 : n ≤ 1048576) (r : Ending) :
    ClkPost w F (upd M p (some (upd f t n))) r r (w1.setCell ⟨b, t, none⟩ (.int .i64 n)) := by
  obtain ⟨c1, _⟩ := hC.store hM hp ht h0 h1
  have e : Gr F w w1 = Gr F w (w1.setCell ⟨b, t, none⟩ (.int .i64 n)) := by funext x; simp [Gr]
  refine ⟨rfl, by rw [← e]; exact c1, hF.setCell ?_ _⟩
  obtain ⟨_, sh0, bk0, xs0, cap0, k0, hb0⟩ := hC.at_ p f hM
  obtain ⟨rfl, rfl, _⟩ := hp.uniq k0
  rcases hb0 b rfl with g | g
  · exact .inl g
  · exact .inr g.1

theorem set_same {w : World} {M F p f} {t : Nat} {n : Int} (hC : Clks w M F) (hM : M p = some f) (e : f t = n) (r : Ending) : ClkPost w F (upd M p (some (upd f t n))) r r w := by
  rw [upd_id e, upd_id hM]
  exact ⟨rfl, by rw [Gr.self]; exact hC, Fr.refl _ _⟩

set_option maxRecDepth 100000 in
set_option maxHeartbeats 400000 in
theorem set_ok {w : World} {M F p f} (hC : Clks w M F) (hM : M p = some f) {t : Nat} {n : Int} (ht : t < 256) (h0 : 0 ≤ n) (h1 : n ≤ 1048576) :
    Calls Try.prog 31 #[ptr p, .int .i64 t, .int .i64 n] w (ClkPost w F (upd M p (some (upd f t n))) (.returned (.int .i64 0))) := by
  have hG := get_any hC hM (t : Int)
  have hcg : cg f (t : Int) = f t := by rw [cg_nn (by omega)]; rfl
  have HC := hid hcg
  clear hcg
  by_cases e : cg f (t : Int) = n
  · have he := hid e
    have e1 : (cg f (t : Int) != n) = false := by simpa using e
    clear e
    go_enter Try.func31, Try.ntmps31
    go_wp2_with (first | (go_at_call 13; refine hG.mono ?_; rintro e w' ⟨rfl, rfl⟩) | (go_at_call 47; go_in) | (go_at_call 44; go_in))
    go_ret
    exact set_same hC hM (HC.out.symm.trans he.out) _
  · have e1 : (cg f (t : Int) != n) = true := by simpa using e
    clear e
    go_enter Try.func31, Try.ntmps31
    go_wp2_with (first | (go_at_call 13; refine hG.mono ?_; rintro e w' ⟨rfl, rfl⟩) | (go_at_call 48; refine (own_any hC hM (n := t + 1) (by omega) (by omega)).mono ?_; rintro e w1 ⟨rfl, b, xs, cap, hp, hn, _, hC1, hF1, _⟩; have c0 := hp.c0b; have hcx := hp.cb (i := t) (by omega); have hfz := hp.fb t) | (go_at_call 47; go_in) | (go_at_call 44; go_in))
    go_ret
    exact set_end hM hp hC1 hF1 (by omega) h0 h1 _

set_option maxRecDepth 100000 in
set_option maxHeartbeats 400000 in
theorem set_bad {w : World} {p : Value} {t n : Int} (h : t < 0 ∨ 256 ≤ t ∨ n < 0 ∨ 1048576 < n) :
    Calls Try.prog 31 #[p, .int .i64 t, .int .i64 n] w fun e w' => e = .returned (.int .i64 1) ∧ w = w' := by
  by_cases h1 : t < 0
  · go_enter Try.func31, Try.ntmps31
    go_wp2_with (first | (go_at_call 47; go_in) | (go_at_call 44; go_in))
    go_ret
    exact ⟨rfl, rfl⟩
  · by_cases h2 : 256 ≤ t
    · go_enter Try.func31, Try.ntmps31
      go_wp2_with (first | (go_at_call 47; go_in) | (go_at_call 44; go_in))
      go_ret
      exact ⟨rfl, rfl⟩
    · by_cases h3 : n < 0
      · go_enter Try.func31, Try.ntmps31
        go_wp2_with (first | (go_at_call 47; go_in) | (go_at_call 44; go_in))
        go_ret
        exact ⟨rfl, rfl⟩
      · have h4 : 1048576 < n := by omega
        have g1 : 0 ≤ t := by omega
        have g2 : t < 256 := by omega
        have g3 : 0 ≤ n := by omega
        have g4 : decide (n ≤ 1048576) = false := decide_eq_false (by omega)
        clear h h1 h2 h3
        go_enter Try.func31, Try.ntmps31
        go_wp2_with (first | (go_at_call 47; go_in) | (go_at_call 44; go_in))
        go_ret
        exact ⟨rfl, rfl⟩

set_option maxRecDepth 100000 in
set_option maxHeartbeats 400000 in
theorem tick_ok {w : World} {M F p f} (hC : Clks w M F) (hM : M p = some f) {t : Nat} {m : Int} (ht : t < 256) (h1 : 1 ≤ m) (h2 : m ≤ 1048576) (hlt : f t < m) :
    Calls Try.prog 32 #[ptr p, .int .i64 t, .int .i64 m] w (ClkPost w F (upd M p (some (upd f t (f t + 1)))) (.returned (.int .i64 0))) := by
  have hG := get_any hC hM (t : Int)
  have hcg : cg f (t : Int) = f t := by rw [cg_nn (by omega)]; rfl
  rw [hcg] at hG
  obtain ⟨_, sh, bk, xs, cap, h, _⟩ := hC.at_ p f hM
  have hr := h.rngf t
  have hS := set_ok hC hM (t := t) (n := f t + 1) ht (by omega) (by omega)
  clear hcg h
  obtain ⟨q, hq, hq'⟩ : ∃ q : Int, q = f t ∧ Hid (q = f t) := ⟨f t, rfl, rfl⟩
  rw [← hq] at hG hS hr hlt ⊢
  clear hq
  go_enter Try.func32, Try.ntmps32
  go_wp2_with (first | (go_at_call 13; refine hG.mono ?_; rintro e w' ⟨rfl, rfl⟩) | (go_at_call 31; refine hS.mono ?_; rintro e w1 ⟨rfl, hp⟩) | (go_at_call 47; go_in))
  go_ret
  exact ⟨rfl, hp⟩

set_option maxRecDepth 100000 in
set_option maxHeartbeats 400000 in
theorem tick_full {w : World} {M F p f} (hC : Clks w M F) (hM : M p = some f) {t : Nat} {m : Int} (ht : t < 256) (h1 : 1 ≤ m) (h2 : m ≤ 1048576) (hlt : m ≤ f t) :
    Calls Try.prog 32 #[ptr p, .int .i64 t, .int .i64 m] w fun e w' => e = .returned (.int .i64 5) ∧ w = w' := by
  have hG := get_any hC hM (t : Int)
  have hcg : cg f (t : Int) = f t := by rw [cg_nn (by omega)]; rfl
  rw [hcg] at hG
  clear hcg
  obtain ⟨q, hq⟩ : ∃ q : Int, q = f t := ⟨f t, rfl⟩
  rw [← hq] at hG hlt
  clear hq
  go_enter Try.func32, Try.ntmps32
  go_wp2_with (first | (go_at_call 13; refine hG.mono ?_; rintro e w' ⟨rfl, rfl⟩) | (go_at_call 47; go_in))
  go_ret
  exact ⟨rfl, rfl⟩

theorem copy_end {w w1 : World} {M F p f sh bk xs cap} (hC : Clks w M F) (hM : M p = some f) (hp : ClkAt w p f sh bk xs cap)
    (hw : w1.heap.size = w.heap.size + 1) (hh : ∀ b, b < w.heap.size → w1.heap[b]? = (w.setCell ⟨p, 1, none⟩ (.bool true)).heap[b]?)
    (hn : w1.heap[w.heap.size]? = some (.cells #[.slice (bk.map fun b => ⟨b, 0, none⟩) xs.length xs.length, .bool true] 69 (0, 0)))
    (ho : w1.os = w.os) (ht : w1.tape = w.tape) (hou : w1.output = w.output) :
    Clks w1 (upd M w.heap.size (some f)) (Gr F w w1) ∧ Fr F w w1 := by
  obtain ⟨fp, sh0, bk0, xs0, cap0, k0, hb0⟩ := hC.at_ p f hM
  obtain ⟨rfl, rfl, rfl, rfl, _⟩ := hp.uniq k0
  have hpw : p < w.heap.size := heap_lt hp.hd
  have hd2 := heap_setCell_eq hp.hd 1 (.bool true)
  have hkp : ∀ b, b < w.heap.size → b ≠ p → w1.heap[b]? = w.heap[b]? := by
    intro b hb hne
    rw [hh b hb, heap_setCell_ne _ _ _ hne]
  have hFr : Fr F w w1 := ⟨ho, ht, hou, by omega, fun b hb hF => hkp b hb (by rintro rfl; exact hF fp)⟩
  have hpb : ∀ b, bk = some b → w1.heap[b]? = w.heap[b]? := by
    intro b e
    subst e
    obtain ⟨arr, ha, _⟩ := hp.bd b rfl
    exact hkp b (heap_lt ha) (hp.ne ha)
  have hp1 : ClkAt w1 p f true bk xs cap := ⟨by rw [hh p hpw, hd2]; simp, fun b e => by rw [hpb b e]; exact hp.bd b e, hp.nl, hp.val, hp.len, hp.cle, hp.rng⟩
  have hq1 : ClkAt w1 w.heap.size f true bk xs xs.length := ⟨hn, fun b e => by rw [hpb b e]; exact hp.bd b e, fun e => by have := (hp.nl e).1; subst this; exact ⟨rfl, rfl⟩, hp.val, hp.len, Nat.le_refl _, hp.rng⟩
  have keep1 : ∀ q k s b' ys c, q ≠ p → M q = some k → ClkAt w q k s b' ys c → ClkAt w1 q k s b' ys c := by
    intro q k s b' ys c hne hq hk
    refine hk.keep (hkp q (heap_lt hk.hd) hne) ?_
    rintro b rfl
    obtain ⟨arr, ha, _⟩ := hk.bd b rfl
    exact hkp b (heap_lt ha) (hp.ne ha)
  have C1 : Clks w1 (upd M p (some f)) F := by
    refine hC.turn hM hp1 hb0 (by omega) ?_
    intro q k s b' ys c hne hq hk
    refine ⟨keep1 q k s b' ys c hne hq hk, ?_⟩
    rintro b rfl rfl
    exact ⟨rfl, hC.sep q p k f s sh b ys xs c cap hne hq hM hk hp⟩
  rw [upd_id hM] at C1
  have C2 : Clks w1 M (Gr F w w1) := C1.gr hC.fin (by omega)
  refine ⟨C2.new hq1 (.inr ⟨Nat.le_refl _, by omega⟩) (fun b e => .inl (hb0 b e)) ?_ ?_, hFr⟩
  · cases e : M w.heap.size with
    | none => rfl
    | some g => have := hC.fin _ (hC.at_ _ _ e).1; omega
  · intro q g sh' b ys c hq hb hk
    refine ⟨rfl, ?_⟩
    by_cases e : q = p
    · subst e; rw [hM] at hq; cases hq; exact (hp1.uniq hk).1.symm
    · obtain ⟨_, s1, b1, y1, c1, k1, _⟩ := hC.at_ q g hq
      obtain ⟨rfl, rfl, rfl, rfl, _⟩ := (keep1 q g s1 b1 y1 c1 e hq k1).uniq hk
      subst hb
      exact hC.sep q p g f s1 sh b y1 xs c1 cap e hq hM k1 hp

def CopyPost (w : World) (F : Nat → Prop) (M : Nat → Option (Nat → Int)) (f : Nat → Int) (e : Ending) (w' : World) : Prop :=
  ∃ q, e = .returned (ptr q) ∧ w.heap.size ≤ q ∧ q < w'.heap.size ∧ Clks w' (upd M q (some f)) (Gr F w w') ∧ Fr F w w'

set_option maxRecDepth 100000 in
set_option maxHeartbeats 400000 in
theorem copy_any {w : World} {M F p f} (hC : Clks w M F) (hM : M p = some f) : Calls Try.prog 30 #[ptr p] w (CopyPost w F M f) := by
  obtain ⟨_, sh, bk, xs, cap, h, _⟩ := hC.at_ p f hM
  have H := hid h
  have c0 := cell_blk h.hd 0
  simp only [List.getElem?_toArray, List.getElem?_cons_zero] at c0
  have c1 := h.c1
  have fz := h.fz 1
  have hle := h.cle
  clear h
  go_enter Try.func30, Try.ntmps30
  go_wp2_with fail
  go_region
  go_wp2_with fail
  all_goals go_ret
  all_goals (try (have hnil : xs = [] := by assumption); try subst hnil)
  all_goals
   have hs : (w.setCell ⟨p, 1, none⟩ (.bool true)).heap.size = w.heap.size := by simp
   refine ⟨w.heap.size, by first | rfl | simp, Nat.le_refl _, by simp, copy_end hC hM H.out (by simp) (fun b hb => heap_alloc_lt _ _ (by rw [hs]; exact hb)) ?_ rfl rfl rfl⟩
   exact heap_alloc_at hs
end Go.Proofs.Ytepdifajieegeaa
