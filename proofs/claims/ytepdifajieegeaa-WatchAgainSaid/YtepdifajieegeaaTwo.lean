/- Layer 16: the small case that every statement of it asks. -/
import Derived.Test.YtepdifajieegeaaWatH
import Derived.Test.YtepdifajieegeaaWatI
import Derived.Test.YtepdifajieegeaaWatK
namespace Go.Proofs.Ytepdifajieegeaa
open Go.RowKit

set_option maxRecDepth 100000 in
set_option maxHeartbeats 400000 in
theorem inuse_any {w wp r t m cr M F} (h : WSt w wp r t m cr M F) : Calls Try.prog 26 #[ptr wp] w fun e w' => e = .returned (.int .i64 cr.length) ∧ w = w' := by
  have c2 := h.c2
  obtain ⟨es, k, hm⟩ := h.mp
  have hlen : ∀ ty, (Builtin.len_ #[61] ty #[.map (some r)]).run Try.prog w = .ok (.int .i64 cr.length) w := by
    intro ty
    have := run_len (P := Try.prog) hm Try.underlying61 ty
    simpa [crewL] using this
  clear h hm
  go_enter Try.func26, Try.ntmps26
  go_wp2_with fail
  go_ret
  exact ⟨rfl, rfl⟩

/-- a lone goroutine's or two goroutines' tids -/
theorem free_unique {cr : Crew} {n k : Nat} (h : IsFree cr n) (hk : IsFree cr k) : n = k := by
  rcases Nat.lt_trichotomy n k with g | g | g
  · obtain ⟨x, hx, e⟩ := hk.2 n g; exact absurd e (h.1 x hx)
  · exact g
  · obtain ⟨x, hx, e⟩ := h.2 k g; exact absurd e (hk.1 x hx)
theorem free_one (g : Int) (c : Nat) {n : Nat} (h : IsFree [(g, 0, c)] n) : n = 1 :=
  free_unique h ⟨fun x hx => by simp at hx; subst hx; simp, fun i hi => ⟨(g, 0, c), by simp, by show (0 : Int) = _; omega⟩⟩

theorem ints_lit2 (w : World) (a b : Int) : IntsR (w.alloc (.cells #[.int .i64 a, .int .i64 b] 3)) (.slice (some ⟨w.heap.size, 0, none⟩) 2 2) [a, b] (fun _ => True) :=
  ⟨_, _, rfl, fun i hi => ⟨w.heap.size, 0, rfl, trivial, by
    rw [Nat.zero_add, World.cell?_alloc_at _ _ _ _ rfl]
    match i, hi with
    | 0, _ => rfl
    | 1, _ => rfl⟩⟩

def f1 : Nat → Int := upd one0 1 1
theorem f1_list : clst f1 = [1, 1] := by
  have hz : ∀ i, 2 ≤ i → f1 i = 0 := by
    intro i hi
    unfold f1 upd one0
    rw [if_neg (by omega), List.getD_eq_getElem?_getD, List.getElem?_eq_none (by simp; omega)]; rfl
  have := clnB_pad f1 2 hz 254
  have h2 : clnB f1 2 = 2 := clnB_stop (.inr (by decide))
  unfold clst
  rw [show (256 : Nat) = 2 + 254 from rfl, this, h2]
  decide

set_option maxRecDepth 100000 in
set_option maxHeartbeats 1600000 in
theorem two_any (w : World) : Calls Try.prog 8 #[] w (SilRet w (.bool true)) := by
  have hN := new_ok w (t := 2) (m := 9) (by decide) (by decide)
  go_enter Try.func8, Try.ntmps8
  go_upto_region 4 with (go_at_call 7; refine hN.mono ?_; rintro e w1 ⟨wp, r, c, F, rfl, hW, hF, hwp, hr, hFr⟩; have HW1 := hid hW; have HF := hid hF; have HFr1 := hid hFr; clear hW hF hFr hN)
  have hS1 := hid (spawn_ok HW1.out (p := 0) (g := 5) (tid := 0) (c := c) (f := one0) rfl (upd_same _ _ _) (by decide) rfl (by simp))
  go_upto_region 5 with (go_at_call 9; refine hS1.out.mono ?_; rintro e w2 ⟨n, q1, rfl, hfree, hnt, hq1, hW2, hFr2⟩; obtain rfl := free_one _ _ hfree; have HW2 := hid hW2; have HFr2 := hid hFr2; clear hW2 hFr2 hS1 hfree)
  have hc1 : c < w1.heap.size := HW1.out.clk.fin _ (HW1.out.clk.at_ _ _ (upd_same _ _ _)).1
  have hq12 : q1 < w2.heap.size := HW2.out.clk.fin _ (HW2.out.clk.at_ _ _ (upd_same _ _ _)).1
  have hS2 := hid (tell_ok HW2.out (g := 5) (tid := 1) (c := q1) (f := f1) rfl (upd_same _ _ _) (by decide))
  go_upto_region 6 with (go_at_call 12; refine hS2.out.mono ?_; rintro e w3 ⟨q2, rfl, hq2, hW3, hFr3⟩; have HW3 := hid hW3; have HFr3 := hid hFr3; clear hW3 hFr3 hS2)
  have hs12 := HFr2.out.size
  have hM3c := hid (show upd (upd (upd (upd NoM c (some one0)) q1 (some (upd one0 1 1))) q2 (some f1)) q1 (some (upd f1 1 (f1 1 + 1))) c = some one0 by rw [upd_ne _ _ (by omega), upd_ne _ _ (by omega), upd_ne _ _ (by omega), upd_same])
  have hM3q := hid (show upd (upd (upd (upd NoM c (some one0)) q1 (some (upd one0 1 1))) q2 (some f1)) q1 (some (upd f1 1 (f1 1 + 1))) q2 = some f1 by rw [upd_ne _ _ (by omega), upd_same])
  have hS3 := hid (know_some HW3.out (g := 0) (tid := 0) (c := c) (q := q2) (f := one0) (fq := f1) rfl hM3c.out hM3q.out)
  have hq23 := HW3.out.clk.fin _ (HW3.out.clk.at_ _ _ hM3q.out).1
  generalize upd (upd (upd (upd NoM c (some one0)) q1 (some (upd one0 1 1))) q2 (some f1)) q1 (some (upd f1 1 (f1 1 + 1))) = M3 at *
  go_upto_region 7 with (go_at_call 14; refine hS3.out.mono ?_; rintro e w4 ⟨rfl, hW4, hFr4⟩; have HW4 := hid hW4; have HFr4 := hid hFr4; clear hW4 hFr4 hS3)
  have hS4 := hid (spawn_full HW4.out (p := 0) (g := 6) (tid := 0) (c := c) rfl (by decide) rfl (by simp))
  go_upto_region 8 with (go_at_call 9; refine hS4.out.mono ?_; rintro e w5 ⟨rfl, hs5⟩; have HS5 := hid hs5; clear hs5 hS4)
  have hS5 := hid (retire_ok (HW4.out.sil HS5.out) (g := 5) (tid := 1) (c := q1) rfl)
  go_upto_region 9 with (go_at_call 22; refine hS5.out.mono ?_; rintro e w6 ⟨rfl, hW6, hFr6⟩; have HW6 := hid hW6; have HFr6 := hid hFr6; clear hW6 hFr6 hS5)
  have hM6c := hid (retM_in (M := upd M3 c (some (mxf one0 f1))) (cr := [(0, 0, c)]) (tid := 1) (x := (0, 0, c)) (by simp))
  have hM6c' := hid (show retM (upd M3 c (some (mxf one0 f1))) [(0, 0, c)] 1 c = some (upd (mxf one0 f1) 1 0) by have := hM6c.out; rw [this, upd_same]; rfl)
  have hM6q := hid (show retM (upd M3 c (some (mxf one0 f1))) [(0, 0, c)] 1 q2 = some f1 by rw [retM_out (by simp; omega), upd_ne _ _ (by omega)]; exact hM3q.out)
  have hS6 := hid (spawn_ok HW6.out (p := 0) (g := 6) (tid := 0) (c := c) (f := upd (mxf one0 f1) 1 0) rfl hM6c'.out (by decide) rfl (by show (1 : Int) < 2; decide))
  go_upto_region 10 with (go_at_call 9; refine hS6.out.mono ?_; rintro e w7 ⟨n, q3, rfl, hfree, hnt, hq3, hW7, hFr7⟩; obtain rfl := free_one _ _ hfree; have HW7 := hid hW7; have HFr7 := hid hFr7; clear hW7 hFr7 hS6 hfree)
  have hq26 := HW6.out.clk.fin _ (HW6.out.clk.at_ _ _ hM6q.out).1
  have hL := hid (list_any HW7.out.clk (p := q2) (f := f1) (by rw [upd_ne _ _ (by omega)]; exact hM6q.out))
  go_wp2_with (first | (go_at_call 16; refine hL.out.mono ?_; rintro e w8 ⟨v, rfl, hI8, hs8⟩; rw [f1_list] at hI8; have HI8 := hid hI8; have HS8 := hid hs8; clear hI8 hs8 hL) | (go_at_call 15; refine (ints_any (lb := [1, 1]) (HI8.out.keep (fun b _ hb => heap_alloc_lt _ _ hb)) (ints_lit2 w8 1 1) (by decide) (by decide)).mono ?_; rintro e w9 ⟨rfl, hs9⟩; have HS9 := hid ((HS8.out.alloc _).trans hs9 (fun _ x => x.elim)); clear hs9) | (go_at_call 26; refine (inuse_any (HW7.out.sil HS9.out)).mono ?_; rintro e w' ⟨rfl, rfl⟩))
  go_ret
  refine ⟨by first | rfl | simp, ?_⟩
  have n1 : New w F := HF.out
  have a1 := HFr1.out
  have a2 := a1.hi HFr2.out (n1.or hr)
  have n2 := n1.gr (b := w2) a1
  have a3 := a2.hi HFr3.out n2
  have n3 := n2.gr (b := w3) a2
  have a4 := a3.hi HFr4.out n3
  have n4 := n3.gr (b := w4) a3
  have a5 := a4.hi HS5.out (fun _ x => x.elim)
  have a6 := a5.hi HFr6.out (n4.or hr)
  have n6 := n4.gr (b := w6) a5
  have a7 := a6.hi HFr7.out (n6.or hr)
  exact a7.hi HS9.out (fun _ x => x.elim)
end Go.Proofs.Ytepdifajieegeaa
