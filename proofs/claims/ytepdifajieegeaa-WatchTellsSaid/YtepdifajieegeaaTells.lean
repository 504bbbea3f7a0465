/- WatchTells. -/
import Derived.Test.YtepdifajieegeaaTwo
namespace Go.Proofs.Ytepdifajieegeaa
open Go.RowKit

structure TR (w : World) (wp r : Nat) (m : Int) (c q1 : Nat) (M : Nat → Option (Nat → Int)) (F : Nat → Prop) (f g : Nat → Int) (wr : World) : Prop where
  st : WSt wr wp r 3 m [(0, 0, c), (1, 1, q1)] M F
  nw : New w F
  fr : Fr (fun _ => False) w wr
  mc : M c = some f
  mq : M q1 = some g
  le : f 0 ≤ m
  ge : g 0 ≤ f 0

theorem cg0 (f : Nat → Int) : cg f 0 = f 0 := rfl

theorem cwi_mxf {w M F p q} {f g : Nat → Int} (hC : Clks w M F) (hp : M p = some f) (hq : M q = some (mxf g f)) : cwi f (mxf g f) = true := by
  rw [cwi_iff hC hp hq]
  intro i; unfold mxf; split <;> omega

theorem get0 {w : World} {M F p f} (hC : Clks w M F) (hM : M p = some f) {a : Int} (h : f 0 = a) :
    Calls Try.prog 13 #[ptr p, .int .i64 0] w fun e w' => e = .returned (.int .i64 a) ∧ w = w' :=
  (get_any hC hM 0).mono fun e w' ⟨e1, e2⟩ => ⟨by rw [e1, cg0, h], e2⟩
theorem within_b {w : World} {M F p q f g} (hC : Clks w M F) (hM : M p = some f) (hQ : M q = some g) {b : Bool} (h : cwi f g = b) :
    Calls Try.prog 17 #[ptr p, ptr q] w fun e w' => e = .returned (.bool b) ∧ w = w' :=
  (within_any hC hM hQ).mono fun e w' ⟨e1, e2⟩ => ⟨by rw [e1, h], e2⟩
theorem can0 {w wp r t m cr M F} (h : WSt w wp r t m cr M F) {g : Int} {c : Nat} {f : Nat → Int} (hl : lk cr g = some (0, c)) (hM : M c = some f) {b : Bool} (hb : decide (f 0 < m) = b) :
    Calls Try.prog 11 #[ptr wp, .int .i64 g] w (SilRet w (.bool b)) :=
  (can_some h hl hM).mono fun e w' ⟨e1, e2⟩ => ⟨by rw [e1, cg0, hb], e2⟩

set_option maxRecDepth 100000 in
set_option maxHeartbeats 1600000 in
theorem tells_any (w : World) (m times : Int) : Calls Try.prog 3 #[.int .i64 m, .int .i64 times] w (SilRet w (.bool true)) := by
  by_cases hm : 1 ≤ m ∧ m ≤ 1048576
  · have hN := hid (new_ok w (t := 3) (m := m) (by decide) hm)
    by_cases ht0 : times < 0
    · go_enter Try.func3, Try.ntmps3
      go_wp2_with (first | (go_at_call 7; refine hN.out.mono ?_; rintro e w1 ⟨wp, r, c, F, rfl, hW, hF, hwp, hr, hFr⟩; have HFr1 := hid hFr; clear hW hF hFr hN) | (go_at_call 8; refine (two_any _).mono ?_; rintro e w2 ⟨rfl, hs2⟩; have HS2 := hid hs2; clear hs2))
      go_ret
      exact ⟨rfl, HFr1.out.trans HS2.out (fun _ x => x.elim)⟩
    · by_cases ht1 : 200 < times
      · go_enter Try.func3, Try.ntmps3
        go_wp2_with (first | (go_at_call 7; refine hN.out.mono ?_; rintro e w1 ⟨wp, r, c, F, rfl, hW, hF, hwp, hr, hFr⟩; have HFr1 := hid hFr; clear hW hF hFr hN) | (go_at_call 8; refine (two_any _).mono ?_; rintro e w2 ⟨rfl, hs2⟩; have HS2 := hid hs2; clear hs2))
        go_ret
        exact ⟨rfl, HFr1.out.trans HS2.out (fun _ x => x.elim)⟩
      · have hmm := hid hm
        clear hm
        go_enter Try.func3, Try.ntmps3
        go_upto_region 4 with (go_at_call 7; refine hN.out.mono ?_; rintro e w1 ⟨wp, r, c, F, rfl, hW, hF, hwp, hr, hFr⟩; have HW1 := hid hW; have HF1 := hid hF; have HFr1 := hid hFr; clear hW hF hFr hN)
        have hS1 := hid (spawn_ok HW1.out (p := 0) (g := 1) (tid := 0) (c := c) (f := one0) rfl (upd_same _ _ _) (by decide) rfl (by simp))
        go_upto_region 5 with (go_at_call 9; refine hS1.out.mono ?_; rintro e w2 ⟨n, q1, rfl, hfree, hnt, hq1, hW2, hFr2⟩; obtain rfl := free_one _ _ hfree; have HW2 := hid hW2; have HFr2 := hid hFr2; clear hW2 hFr2 hS1 hfree)
        have hc1 : c < w1.heap.size := HW1.out.clk.fin _ (HW1.out.clk.at_ _ _ (upd_same _ _ _)).1
        have hT : Hid (TR w wp r m c q1 (upd (upd NoM c (some one0)) q1 (some (upd one0 1 1))) (Gr F w1 w2) one0 (upd one0 1 1) w2) := by
          have n1 : New w F := HF1.out
          refine ⟨HW2.out, n1.gr HFr1.out, HFr1.out.hi HFr2.out (n1.or hr), by rw [upd_ne _ _ (by omega), upd_same], upd_same _ _ _, by have := hmm.out; show (1 : Int) ≤ m; omega, by decide⟩
        clear HW1 HF1 HFr1 HW2 HFr2 hc1 hq1 hnt
        go_wp2_with fail
        go_loopw [7, 8, 9, 10, 11, 12, 13, 14, 15, 16] (fun i _ _ _ _ _ _ _ _ _ wr => ∃ (k : Nat) (M : Nat → Option (Nat → Int)) (F : Nat → Prop) (f g : Nat → Int), i = .int .i64 k ∧ (k : Int) ≤ times ∧ TR w wp r m c q1 M F f g wr) (fun i _ _ _ _ _ _ _ _ _ _ => (times - intOf i).toNat)
        case atStart => exact ⟨0, _, _, _, _, rfl, by omega, hT.out⟩
        case round =>
          obtain ⟨k, M, F, f, g, rfl, hk, hR⟩ := hrel
          have HR := hid hR
          clear hR hT
          by_cases hlt : (k : Int) < times
          · have hcl : c < wr.heap.size := HR.out.st.clk.fin _ (HR.out.st.clk.at_ _ _ HR.out.mc).1
            have hql : q1 < wr.heap.size := HR.out.st.clk.fin _ (HR.out.st.clk.at_ _ _ HR.out.mq).1
            have hcq : c ≠ q1 := by
              have := HR.out.st.ptrs
              simpa using this
            obtain ⟨_, _, _, _, _, hp0, _⟩ := HR.out.st.clk.at_ _ _ HR.out.mc
            have ha0 := hp0.rngf 0
            clear hp0
            obtain ⟨a, ha⟩ : ∃ a, f 0 = a := ⟨_, rfl⟩
            rw [ha] at ha0
            have hS8 := hid (clock_some HR.out.st (g := 0) (tid := 0) (c := c) rfl HR.out.mc)
            have HA := hid ha
            have HCQ := hid hcq
            clear ha hcq
            go_upto_region 9 with (go_at_call 10; refine hS8.out.mono ?_; rintro e w1 ⟨b0, rfl, hb0, hb0', hW1, hF1⟩; have HW1 := hid hW1; have HF1 := hid hF1; clear hW1 hF1 hS8)
            have m1c : Hid (upd M b0 (some f) c = some f) := by rw [upd_ne _ _ (by omega)]; exact HR.out.mc
            have m1q : Hid (upd M b0 (some f) q1 = some g) := by rw [upd_ne _ _ (by omega)]; exact HR.out.mq
            have m1b : Hid (upd M b0 (some f) b0 = some f) := upd_same _ _ _
            have n1 := hid (HR.out.nw.gr (b := w1) HR.out.fr)
            have f1' := hid (HR.out.fr.hi HF1.out HR.out.nw)
            generalize upd M b0 (some f) = M1 at *
            generalize Gr F wr w1 = F1 at *
            by_cases hf : a < m
            · have hS9 := hid (can0 HW1.out (g := 0) (c := c) (b := true) rfl m1c.out (decide_eq_true (by rw [HA.out]; exact hf)))
              go_upto_region 10 with (go_at_call 11; refine hS9.out.mono ?_; rintro e w2 ⟨rfl, hs2⟩; have HS2 := hid hs2; clear hs2 hS9)
              have hS10 := hid (tell_ok (HW1.out.sil HS2.out) (g := 0) (tid := 0) (c := c) (f := f) rfl m1c.out (by rw [HA.out]; exact hf))
              go_upto_region 11 with (go_at_call 12; refine hS10.out.mono ?_; rintro e w3 ⟨q2, rfl, hq2, hW3, hF3⟩; have HW3 := hid hW3; have HF3 := hid hF3; clear hW3 hF3 hS10)
              have hs12 := HS2.out.size
              have hF1r := HF1.out.size
              have hb0q : b0 < w2.heap.size := by omega
              have m3c : Hid (upd (upd M1 q2 (some f)) c (some (upd f 0 (f 0 + 1))) c = some (upd f 0 (f 0 + 1))) := upd_same _ _ _
              have m3q : Hid (upd (upd M1 q2 (some f)) c (some (upd f 0 (f 0 + 1))) q1 = some g) := by rw [upd_ne _ _ (Ne.symm HCQ.out), upd_ne _ _ (by omega)]; exact m1q.out
              have m3b : Hid (upd (upd M1 q2 (some f)) c (some (upd f 0 (f 0 + 1))) b0 = some f) := by rw [upd_ne _ _ (by omega), upd_ne _ _ (by omega)]; exact m1b.out
              have m3t : Hid (upd (upd M1 q2 (some f)) c (some (upd f 0 (f 0 + 1))) q2 = some f) := by rw [upd_ne _ _ (by omega), upd_same]; exact rfl
              have f2' := hid (f1'.out.trans HS2.out (fun _ x => x.elim))
              have n3 := hid (n1.out.gr (b := w3) f2'.out)
              have f3' := hid (f2'.out.hi HF3.out n1.out)
              have hq23 := HW3.out.clk.fin _ (HW3.out.clk.at_ _ _ m3t.out).1
              have hs23 := HF3.out.size
              generalize upd (upd M1 q2 (some f)) c (some (upd f 0 (f 0 + 1))) = M3 at *
              generalize Gr F1 w2 w3 = F3 at *
              clear HW1 HF1 HS2 HF3 m1c m1q m1b n1 f1' f2'
              have hS15 := hid (know_some HW3.out (g := 1) (tid := 1) (c := q1) (q := q2) (f := g) (fq := f) rfl m3q.out m3t.out)
              go_upto_region 15 with (go_at_call 13; refine (get0 HW3.out.clk m3b.out HA.out).mono ?_; rintro e w' ⟨rfl, rfl⟩)
              go_upto_region 16 with (go_at_call 14; refine hS15.out.mono ?_; rintro e w4 ⟨rfl, hW4, hF4⟩; have HW4 := hid hW4; have HF4 := hid hF4; clear hW4 hF4 hS15)
              have m4c : Hid (upd M3 q1 (some (mxf g f)) c = some (upd f 0 (f 0 + 1))) := by rw [upd_ne _ _ HCQ.out]; exact m3c.out
              have m4q : Hid (upd M3 q1 (some (mxf g f)) q1 = some (mxf g f)) := upd_same _ _ _
              have m4b : Hid (upd M3 q1 (some (mxf g f)) b0 = some f) := by rw [upd_ne _ _ (by omega)]; exact m3b.out
              have m4t : Hid (upd M3 q1 (some (mxf g f)) q2 = some f) := by rw [upd_ne _ _ (by omega)]; exact m3t.out
              have n4 := hid (n3.out.gr (b := w4) f3'.out)
              have f4' := hid (f3'.out.hi HF4.out n3.out)
              have hs34 := HF4.out.size
              generalize upd M3 q1 (some (mxf g f)) = M4 at *
              generalize Gr F3 w3 w4 = F4 at *
              clear HW3 HF4 m3c m3q m3b m3t n3 f3'
              have hS16 := hid (clock_some HW4.out (g := 0) (tid := 0) (c := c) rfl m4c.out)
              go_upto_region 17 with (go_at_call 10; refine hS16.out.mono ?_; rintro e w5 ⟨a0, rfl, ha1, ha2, hW5, hF5⟩; have HW5 := hid hW5; have HF5 := hid hF5; clear hW5 hF5 hS16)
              have m5c : Hid (upd M4 a0 (some (upd f 0 (f 0 + 1))) c = some (upd f 0 (f 0 + 1))) := by rw [upd_ne _ _ (by omega)]; exact m4c.out
              have m5q : Hid (upd M4 a0 (some (upd f 0 (f 0 + 1))) q1 = some (mxf g f)) := by rw [upd_ne _ _ (by omega)]; exact m4q.out
              have m5b : Hid (upd M4 a0 (some (upd f 0 (f 0 + 1))) b0 = some f) := by rw [upd_ne _ _ (by omega)]; exact m4b.out
              have m5t : Hid (upd M4 a0 (some (upd f 0 (f 0 + 1))) q2 = some f) := by rw [upd_ne _ _ (by omega)]; exact m4t.out
              have m5a : Hid (upd M4 a0 (some (upd f 0 (f 0 + 1))) a0 = some (upd f 0 (f 0 + 1))) := upd_same _ _ _
              have n5 := hid (n4.out.gr (b := w5) f4'.out)
              have f5' := hid (f4'.out.hi HF5.out n4.out)
              have hs45 := HF5.out.size
              generalize upd M4 a0 (some (upd f 0 (f 0 + 1))) = M5 at *
              generalize Gr F4 w4 w5 = F5 at *
              clear HW4 HF5 m4c m4q m4b m4t n4 f4'
              have hS17 := hid (clock_some HW5.out (g := 1) (tid := 1) (c := q1) rfl m5q.out)
              go_upto_region 18 with (go_at_call 10; refine hS17.out.mono ?_; rintro e w6 ⟨k0, rfl, hk1, hk2, hW6, hF6⟩; have HW6 := hid hW6; have HF6 := hid hF6; clear hW6 hF6 hS17)
              have m6c : Hid (upd M5 k0 (some (mxf g f)) c = some (upd f 0 (f 0 + 1))) := by rw [upd_ne _ _ (by omega)]; exact m5c.out
              have m6q : Hid (upd M5 k0 (some (mxf g f)) q1 = some (mxf g f)) := by rw [upd_ne _ _ (by omega)]; exact m5q.out
              have m6b : Hid (upd M5 k0 (some (mxf g f)) b0 = some f) := by rw [upd_ne _ _ (by omega)]; exact m5b.out
              have m6t : Hid (upd M5 k0 (some (mxf g f)) q2 = some f) := by rw [upd_ne _ _ (by omega)]; exact m5t.out
              have m6a : Hid (upd M5 k0 (some (mxf g f)) a0 = some (upd f 0 (f 0 + 1))) := by rw [upd_ne _ _ (by omega)]; exact m5a.out
              have m6k : Hid (upd M5 k0 (some (mxf g f)) k0 = some (mxf g f)) := upd_same _ _ _
              have n6 := hid (n5.out.gr (b := w6) f5'.out)
              have f6' := hid (f5'.out.hi HF6.out n5.out)
              generalize upd M5 k0 (some (mxf g f)) = M6 at *
              generalize Gr F5 w5 w6 = F6 at *
              clear HW5 HF6 m5c m5q m5b m5t m5a n5 f5'
              have gA : Hid (upd f 0 (f 0 + 1) 0 = a + 1) := by rw [upd_same, HA.out]; exact rfl
              have gK : Hid (mxf g f 0 = a) := by
                have := HR.out.ge
                have := HA.out
                show mxf g f 0 = a
                unfold mxf; split <;> omega
              have hcw := hid (cwi_mxf HW6.out.clk m6b.out m6k.out)
              have hl1 := hid (list_any HW6.out.clk m6t.out)
              have hd1 : decide (clst f = clst f) = true := decide_eq_true rfl
              have hcl256 : (clst f).length ≤ 1000000000 := by
                have := clnB_le f 256
                unfold clst; simp; omega
              clear hcl hql hb0 hb0' hq2 hs12 hF1r hb0q hq23 hs23 hs34 ha1 ha2 hs45 hk1 hk2
              go_wp2_with (first | (go_at_call 16; (with_reducible refine hl1.out.mono ?_); rintro e w7 ⟨v7, rfl, hI7, hs7⟩; have HI7 := hid hI7; have HS7 := hid hs7; clear hI7 hs7 hl1) | (go_at_call 16; (with_reducible refine (list_any (HW6.out.sil HS7.out).clk m6b.out).mono ?_); rintro e w8 ⟨v8, rfl, hI8, hs8⟩; have HI8 := hid hI8; have HS8 := hid (HS7.out.trans hs8 (fun _ x => x.elim)); have HI7' := hid (HI7.out.keep (fun b _ hb => hs8.keep b hb (fun x => x))); clear hI8 hs8 HI7) | (go_at_call 15; (with_reducible refine (ints_any HI7'.out HI8.out hcl256 hcl256).mono ?_); rintro e w9 ⟨rfl, hs9⟩; have HS9 := hid (HS8.out.trans hs9 (fun _ x => x.elim)); clear hs9) | (go_at_call 17; (with_reducible refine (within_b (HW6.out.sil HS9.out).clk m6b.out m6k.out hcw.out).mono ?_); rintro e w' ⟨rfl, rfl⟩) | (go_at_call 13; (with_reducible refine (get0 (HW6.out.sil HS9.out).clk m6a.out gA.out).mono ?_); rintro e w' ⟨rfl, rfl⟩) | (go_at_call 13; (with_reducible refine (get0 (HW6.out.sil HS9.out).clk m6b.out HA.out).mono ?_); rintro e w' ⟨rfl, rfl⟩) | (go_at_call 13; (with_reducible refine (get0 (HW6.out.sil HS9.out).clk m6k.out gK.out).mono ?_); rintro e w' ⟨rfl, rfl⟩))
              go_roundw
              case rel =>
                refine ⟨k + 1, M6, F6, _, _, by go_num, by omega, HW6.out.sil HS9.out, n6.out, f6'.out.trans HS9.out (fun _ x => x.elim), m6c.out, m6q.out, ?_, ?_⟩
                · rw [gA.out]; omega
                · rw [gA.out, gK.out]; omega
              case measure => simp [intOf]; omega
            · have hfm := HR.out.le
              rw [HA.out] at hfm
              obtain rfl : a = m := by omega
              clear hf hfm
              have hS9 := hid (can0 HW1.out (g := 0) (c := c) (b := false) rfl m1c.out (decide_eq_false (by rw [HA.out]; omega)))
              go_upto_region 10 with (go_at_call 11; refine hS9.out.mono ?_; rintro e w2 ⟨rfl, hs2⟩; have HS2 := hid hs2; clear hs2 hS9)
              have hS10 := hid (tell_full (HW1.out.sil HS2.out) (g := 0) (tid := 0) (c := c) (f := f) rfl m1c.out (by rw [cg0, HA.out]; omega))
              go_upto_region 11 with (go_at_call 12; refine hS10.out.mono ?_; rintro e w3 ⟨rfl, hs3⟩; have HS3 := hid (HS2.out.trans hs3 (fun _ x => x.elim)); clear hs3 hS10)
              go_wp2_with (first | (go_at_call 13; (with_reducible refine (get0 (HW1.out.sil HS3.out).clk m1b.out HA.out).mono ?_); rintro e w' ⟨rfl, rfl⟩) | (go_at_call 8; (with_reducible refine (two_any _).mono ?_); rintro e w4 ⟨rfl, hs4⟩; have HS4 := hid (HS3.out.trans hs4 (fun _ x => x.elim)); clear hs4))
              go_ret
              exact ⟨rfl, f1'.out.trans HS4.out (fun _ x => x.elim)⟩
          · go_wp2_with (go_at_call 8; refine (two_any _).mono ?_; rintro e w2 ⟨rfl, hs2⟩; have HS2 := hid hs2; clear hs2)
            go_ret
            exact ⟨rfl, HR.out.fr.trans HS2.out (fun _ x => x.elim)⟩
  · have hbad : (3 : Int) < 1 ∨ (256 : Int) < 3 ∨ m < 1 ∨ 1048576 < m := by omega
    have hN := hid (new_bad w (t := 3) (m := m) hbad)
    clear hm hbad
    go_enter Try.func3, Try.ntmps3
    go_wp2_with (first | (go_at_call 7; refine hN.out.mono ?_; rintro e w1 ⟨rfl, rfl⟩) | (go_at_call 8; refine (two_any _).mono ?_; rintro e w2 ⟨rfl, hs2⟩; have HS2 := hid hs2; clear hs2))
    go_ret
    exact ⟨rfl, HS2.out⟩
end Go.Proofs.Ytepdifajieegeaa
