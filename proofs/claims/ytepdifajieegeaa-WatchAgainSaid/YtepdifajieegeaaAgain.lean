/- WatchAgain: the walk. -/
import Derived.Test.YtepdifajieegeaaOpen
namespace Go.Proofs.Ytepdifajieegeaa
open Go.RowKit

/-- a spawn that gives a tid -/
def WSpawnN (w0 w : World) (wp r : Nat) (t m : Int) (cr : Crew) (M : Nat → Option (Nat → Int)) (F : Nat → Prop) (f : Nat → Int) (g : Int) (e : Ending) (w' : World) : Prop :=
  ∃ n q F', e = .returned (.tuple #[.int .i64 (n : Nat), .int .i64 0]) ∧ IsFree cr n ∧ (∀ x ∈ cr, x.2.2 ≠ q) ∧ Turn w0 w w' wp r t m F (cr ++ [(g, (n : Int), q)]) (upd M q (some (upd f n 1))) F'
theorem wspawn_new {w0 w wp r t m cr M F} (h : WS w0 w wp r t m cr M F) {p g tid : Int} {c : Nat} {f : Nat → Int} (hp : lk cr p = some (tid, c)) (hf : M c = some f) (hg0 : 0 ≤ g) (hgn : lk cr g = none) (hl : (cr.length : Int) < t) (hg : (Lit.int .i64 g).wf = true) :
    Calls Try.prog 9 #[ptr wp, .int .i64 p, .int .i64 g] w (WSpawnN w0 w wp r t m cr M F f g) := by
  refine (spawn_ok h.st hp hf hg0 hgn hl).mono ?_
  rintro e w' ⟨n, q, rfl, hfree, hn, hq, hW, hF⟩
  refine ⟨n, q, _, rfl, hfree, h.st.new_ne hq, h.turn hW hF (h.kn.spawn h.st (lk_mem hp) hf hfree (h.st.new_ne hq) g) ?_⟩
  intro x hx
  rcases List.mem_append.1 hx with hx | hx
  · exact h.wf x hx
  · simp at hx; subst hx; exact hg

/-- what the last loop keeps -/
structure AgR (W : World) (wp r xp : Nat) (t m : Int) (cr : Crew) (L : List (Int × Int)) (v : Value) (al : List Int) (wr : World) (M : Nat → Option (Nat → Int)) (F G : Nat → Prop) (child : Int) (n : Nat) : Prop where
  in_ : InR W wp r xp t m cr L v al wr M F G
  val : ∀ x ∈ cr, ∀ f, M x.2.2 = some f → cg f (n : Int) = if x.1 = child then 1 else 0
theorem AgR.turn {W w w' wp r xp t m cr L v al M F G F' child n q'} {f' : Nat → Int} (h : AgR W wp r xp t m cr L v al w M F G child n) (k : Turn W w w' wp r t m F cr (upd M q' (some f')) F') (hq : w.heap.size ≤ q') : AgR W wp r xp t m cr L v al w' (upd M q' (some f')) F' G child n :=
  ⟨h.in_.turn k, fun x hx f hf => h.val x hx f (by rwa [upd_ne _ _ (h.in_.duo.ws.st.new_ne hq x hx)] at hf)⟩
theorem AgR.mem {W wp r xp t m cr L v al wr M F G child n} (h : AgR W wp r xp t m cr L v al wr M F G child n) (hp : al.Perm (cr.map (·.1))) {i : Nat} (hi : i < al.length) {g : Int} (hg : al[i] = g) : ∃ tid c f, Mem cr M g tid c f ∧ cg f (n : Int) = if g = child then 1 else 0 := by
  obtain ⟨tid, c, f, hM, _⟩ := h.in_.mem hp hi
  rw [hg] at hM
  exact ⟨tid, c, f, hM, h.val _ (lk_mem hM.lk) f hM.at_⟩
theorem val_spawn {cr : Crew} {M : Nat → Option (Nat → Int)} (k : Kn cr M) {child : Int} {n q : Nat} {f : Nat → Int} (hc : lk cr child = none) (hfree : IsFree cr n) (hq : ∀ x ∈ cr, x.2.2 ≠ q) :
    ∀ x ∈ cr ++ [(child, (n : Int), q)], ∀ f2, upd M q (some (upd f n 1)) x.2.2 = some f2 → cg f2 (n : Int) = if x.1 = child then 1 else 0 := by
  intro x hx f2 hf2
  rw [cg_nn (by omega)]
  rcases List.mem_append.1 hx with hx1 | hx1
  · rw [upd_ne _ _ (hq x hx1)] at hf2
    rw [if_neg (lk_none_mem hc x hx1)]
    exact (k x hx1 f2 hf2).2 _ (by simpa using hfree.1)
  · simp at hx1; subst hx1
    rw [upd_same] at hf2; cases hf2
    rw [if_pos rfl]
    exact upd_same _ _ _

theorem lk_ne_none {al : List Int} {cr : Crew} (hp : al.Perm (cr.map (·.1))) {i : Nat} (hi : i < al.length) {g : Int} (hg : al[i] = g) : lk cr g ≠ none := fun e => by
  subst hg
  obtain ⟨x, hx, e'⟩ := List.mem_map.1 (hp.mem_iff.1 (List.getElem_mem hi))
  exact lk_none_mem e x hx e'
theorem lk_del_ne {cr : Crew} (hk : (cr.map (·.1)).Nodup) {g p : Int} (hne : p ≠ g) (h : lk cr p ≠ none) : ∃ tid c, lk (delC cr g) p = some (tid, c) := by
  obtain ⟨x, hx, rfl⟩ := lk_some_mem h
  have hx' := (delC_mem hk x).2 ⟨hx, hne⟩
  exact ⟨_, _, lk_of_mem (((delC_sub cr g).map _).nodup hk) hx'⟩
theorem lk_del_none {cr : Crew} (hk : (cr.map (·.1)).Nodup) {g p : Int} (h : lk cr p = none) : lk (delC cr g) p = none := by
  cases e : lk (delC cr g) p with
  | none => rfl
  | some y => exact absurd rfl (lk_none_mem h _ ((delC_mem hk _).1 (lk_mem e)).1)
theorem delC_len {cr : Crew} {g : Int} (h : lk cr g ≠ none) : (delC cr g).length < cr.length := by
  obtain ⟨x, hx, rfl⟩ := lk_some_mem h
  clear h
  induction cr with
  | nil => cases hx
  | cons y cr ih =>
    rw [delC]
    by_cases e : y.1 = x.1
    · rw [if_pos (by simpa using e)]; simp
    · rw [if_neg (by simpa using e)]
      rcases List.mem_cons.1 hx with rfl | hx
      · exact absurd rfl e
      · have := ih hx; simp; omega

set_option maxRecDepth 100000 in
set_option maxHeartbeats 4000000 in
theorem again_any (W : World) (t child : Int) {v : Value} {n : Nat} (hv : StepsR W v n) (hn : n ≤ 9223372036854775807) (hcw : (Lit.int .i64 child).wf = true) : Calls Try.prog 4 #[.int .i64 t, v, .int .i64 child] W (SilRet W (.bool true)) := by
  obtain ⟨sp, cap, rfl, hs⟩ := hv
  have HCW := hid hcw
  clear hcw
  by_cases hb : t < 1 ∨ 256 < t
  · have hN := hid (new_bad W (t := t) (m := 1048576) (by omega))
    have hX := hid (rnew_bad W (t := t) (m := 1048576) (by omega))
    clear hs hb
    go_enter Try.func4, Try.ntmps4
    go_wp2_with (first
      | (go_at_call 7; refine hN.out.mono ?_; rintro e w1 ⟨rfl, rfl⟩)
      | (go_at_call 18; refine hX.out.mono ?_; rintro e w1 ⟨rfl, rfl⟩)
      | (go_at_call 8; refine (two_any _).mono ?_; rintro e w2 ⟨rfl, hs2⟩; have HS2 := hid hs2; clear hs2))
    go_ret
    exact ⟨rfl, HS2.out⟩
  · have hN := hid (wnew_any W (t := t) (m := 1048576) (by omega) (by omega))
    have hX := hid (fun w => rnew_ok w (t := t) (m := 1048576) (by omega) (by omega))
    clear hb
    go_enter Try.func4, Try.ntmps4
    go_upto_region 3 with (first
      | (go_at_call 7; refine hN.out.mono ?_; rintro e w1 ⟨wp, r, cr0, M0, F0, rfl, hW, hc⟩; have HW := hid hW; have HC := hid hc; clear hW hc)
      | (go_at_call 18; refine (hX.out w1).mono ?_; rintro e w2 ⟨xp, rfl, hR, hF⟩; have HD := hid (duo_new HW.out HC.out hR hF); clear hR hF))
    clear hN hX HW HC
    by_cases hlen : 80 < (n : Int)
    · clear hs
      go_wp2_with (go_at_call 8; refine (two_any _).mono ?_; rintro e w3 ⟨rfl, hs2⟩; have HS2 := hid hs2; clear hs2)
      go_ret
      exact ⟨rfl, HD.out.1.ws.fr.trans HS2.out (fun _ x => x.elim)⟩
    · have HS := hid hs
      have HD0 : Hid (OwnR W wp r xp t 1048576 w2) := hid ⟨_, _, _, _, _, HD.out.1, HD.out.2⟩
      clear hs HD
      go_wp2_with fail
      go_loopw [57] (fun i wr => ∃ k : Nat, k ≤ n ∧ i = .int .i64 k ∧ OwnR W wp r xp t 1048576 wr) (fun i _ => n - (intOf i).toNat)
      case atStart => exact ⟨0, by omega, rfl, HD0.out⟩
      case round =>
        obtain ⟨k, hk, rfl, hR⟩ := hrel
        have HR := hid hR
        clear hR HD0
        by_cases hlt : k < n
        · obtain ⟨b, off, a, g, kk, p', n', c', rfl, hbl, hr, hwf⟩ := HS.out k hlt
          have hFr : Fr (fun _ => False) W wr := by obtain ⟨_, _, _, _, _, hD, _⟩ := HR.out; exact hD.ws.fr
          have HRG := hid (range_keep hr (hFr.keep b hbl (fun x => x)))
          have HWF := hid hwf
          have hi4 : (Try.prog.info? 47).map (·.size) = some [Value.int .i64 a, .int .i64 g, .int .i64 kk, .slice p' n' c'].length := by kernel_rfl
          have hk0 : (0 : Int) ≤ (k : Int) := by omega
          have hkn : (k : Int) < (n : Int) := by omega
          clear hr hwf hFr
          by_cases ha : a = 2
          · subst ha
            go_wp2_with (refine wpList_load_mid (op := ⟨some 60, _, _, _, _, _⟩) rfl 47 _ rfl b (off + k * 4) rfl _ _ HRG.out Try.underlying47 rfl hi4 ?_)
            go_roundw
            case rel =>
              obtain ⟨_, _, _, _, _, hD, hP⟩ := HR.out
              exact ⟨k + 1, by omega, by go_num, _, _, _, _, _, hD.sil ((Fr.refl _ _).alloc _), hP⟩
            case measure => simp [intOf]; omega
          · have ha2 : (a != 2) = true := by simpa using ha
            have HA := hid ha
            clear ha
            obtain ⟨cr0, M0, F0, L0, G0, hD, hP⟩ := HR.out
            have HD0 := hid hD
            have HP0 := hid hP
            clear hD hP
            go_upto_region 9 with (refine wpList_load_mid (op := ⟨some 60, _, _, _, _, _⟩) rfl 47 _ rfl b (off + k * 4) rfl _ _ HRG.out Try.underlying47 rfl hi4 ?_)
            have HD1 := hid (HD0.out.sil ((Fr.refl (fun _ => False) wr).alloc (.cells #[.int .i64 a, .int .i64 g, .int .i64 kk, .slice p' n' c'] 47)))
            go_wp2_with (go_at_call 19; refine (does_any HD1.out HP0.out HA.out g HWF.out p' n' c').mono ?_; rintro e w3 ⟨⟨bb, rfl⟩, cr1, M1, F1, L1, G1, hD1, hP1⟩; have HD3 := hid hD1; have HP3 := hid hP1; clear hD1 hP1)
            go_roundw
            case rel => exact ⟨k + 1, by omega, by go_num, _, _, _, _, _, HD3.out, HP3.out⟩
            case measure => simp [intOf]; omega
        · obtain ⟨cr1, M1, F1, L1, G1, hD1, hP1⟩ := HR.out
          have HD3 := hid hD1
          have HP3 := hid hP1
          clear hD1 hP1 HR HS
          have cA := all_any HD3.out.ws.st HD3.out.ws.wf
          go_upto_region 12 with (go_at_call 20; refine cA.mono ?_; rintro e w4 ⟨va, al, rfl, hap, hai, hs4⟩; obtain ⟨sp2, cap2, rfl, _⟩ := hai.at_; have HAP := hid hap; have HI4 := hid (InR.start HD3.out hai hs4); have hal := hid (all_len HD3.out.ws.st hap); clear hap hai hs4 cA)
          have hal1 : al.length ≤ 256 := hal.out
          clear HD3
          have cX := rat_any HI4.out.duo.rt child
          obtain ⟨at_, hat⟩ : ∃ x, atL L1 child 0 = x := ⟨_, rfl⟩
          rw [hat] at cX
          by_cases h2 : al.length < 2
          · have hal2 : (al.length : Int) < 2 := by omega
            clear cX
            go_wp2_with (go_at_call 8; refine (two_any _).mono ?_; rintro e w5 ⟨rfl, hs2⟩; have HS2 := hid hs2; clear hs2)
            go_ret
            exact ⟨rfl, HI4.out.duo.ws.fr.trans HS2.out (fun _ x => x.elim)⟩
          have hal2 : ¬ (al.length : Int) < 2 := by omega
          by_cases hc0 : child < 0
          · clear cX
            go_wp2_with (go_at_call 8; refine (two_any _).mono ?_; rintro e w5 ⟨rfl, hs2⟩; have HS2 := hid hs2; clear hs2)
            go_ret
            exact ⟨rfl, HI4.out.duo.ws.fr.trans HS2.out (fun _ x => x.elim)⟩
          rcases perm_at HP3.out child with ⟨hat0, hlk⟩ | ⟨hat0, _⟩
          · rw [hat] at hat0
            have HLK := hid hlk
            clear hlk hat
            obtain ⟨b2, off2, rfl, hcl⟩ := HI4.out.all.cells.2 (al.length - 1) (by omega)
            obtain ⟨b3, off3, e3, hcf⟩ := HI4.out.all.cells.2 0 (by omega)
            cases e3
            obtain ⟨gone, hgone⟩ : ∃ x, al[al.length - 1] = x := ⟨_, rfl⟩
            obtain ⟨par, hpar⟩ : ∃ x, al[0] = x := ⟨_, rfl⟩
            have HGP := hid (all_ne HI4.out.duo.ws.st HAP.out (by omega) (by omega) hpar hgone (by omega))
            have HG := hid (lk_ne_none HAP.out (by omega) hgone)
            have HP := hid (lk_ne_none HAP.out (by omega) hpar)
            rw [hgone] at hcl
            rw [hpar] at hcf
            have hidx : ((al.length - 1 : Nat) : Int) = (al.length : Int) - 1 := by omega
            have HCL := hid hcl
            have HCF := hid hcf
            clear hcl hcf hgone hpar hidx
            go_upto_region 14 with (go_at_call 21; refine cX.mono ?_; rintro e w5 ⟨rfl, hs5⟩)
            have HI5 := hid (HI4.out.sil hs5)
            have c5l : w5.cell? ⟨b2, off2 + (al.length - 1), none⟩ = some (.int .i64 gone) := (cell_same (hs5.keep b2 (World.block_lt_of_cell? _ _ HCL.out) (fun x => x)) _).trans HCL.out
            have c5f : w5.cell? ⟨b2, off2 + 0, none⟩ = some (.int .i64 par) := (cell_same (hs5.keep b2 (World.block_lt_of_cell? _ _ HCL.out) (fun x => x)) _).trans HCF.out
            rw [Nat.add_zero] at c5f
            have hz0 : (0 : Int) ≤ (al.length : Int) - 1 := by omega
            have hz1 : (al.length : Int) - 1 < (al.length : Int) := by omega
            have hz2 : ((al.length : Int) - 1).toNat = al.length - 1 := by omega
            have hz3 : (0 : Int) < (al.length : Int) := by omega
            have hz4 : 0 < al.length := by omega
            clear hs5 cX
            go_upto_region 16 with fail
            clear hz0 hz1 hz2 hz3 hz4 c5l c5f
            have cR := wretire_any HI5.out.duo.ws gone
            go_upto_region 18 with (go_at_call 22; refine cR.mono ?_; rintro e w6 ⟨z, M6, F6, rfl, hz, hT6⟩; obtain rfl := hz.2 HG.out; have HI6 := hid (HI5.out.duo.wturn hT6); clear hz hT6 cR)
            obtain ⟨tidp, cp, hlp⟩ := lk_del_ne HI5.out.duo.ws.st.keys HGP.out HP.out
            obtain ⟨fp, hfp⟩ := HI6.out.ws.st.cls _ (lk_mem hlp)
            have hgn := lk_del_none (g := gone) HI5.out.duo.ws.st.keys HLK.out
            have hlen' : ((delC cr1 gone).length : Int) < t := by
              have h1 := delC_len HG.out
              have h2 := HI5.out.duo.ws.st.len
              omega
            have cS := wspawn_new HI6.out.ws hlp hfp (by omega) hgn hlen' HCW.out
            have HGN := hid hgn
            clear hlp hfp hgn hlen' HI5 HI4 HP3
            go_upto_region 21 with (go_at_call 9; refine cS.mono ?_; rintro e w7 ⟨ntid, q, F7, rfl, hfree, hq, hT7⟩; have HT7 := hid (And.intro hfree (And.intro hq hT7)); clear hfree hq hT7)
            have HD7 := hid (HI6.out.wturn HT7.out.2.2)
            have HV7 := hid (val_spawn (f := fp) HI6.out.ws.kn HGN.out HT7.out.1 HT7.out.2.1)
            clear HT7 cS
            clear HI6 HGN HAP
            generalize delC cr1 gone ++ [(child, (ntid : Int), q)] = cr7 at *
            generalize upd M6 q (some (upd fp ntid 1)) = M7 at *
            have cA := all_any HD7.out.ws.st HD7.out.ws.wf
            go_wp2_with (go_at_call 20; refine cA.mono ?_; rintro e w8 ⟨va, a8, rfl, hap, hai, hs8⟩; obtain ⟨sp8, cap8, rfl, _⟩ := hai.at_; have HAP := hid hap; have HI8 := hid (AgR.mk (InR.start HD7.out hai hs8) HV7.out); have hal8 := hid (all_len HD7.out.ws.st hap); clear hap hai hs8 cA)
            clear HD7 HV7 HCL HCF
            go_loopw [110] (fun i w9 => ∃ j : Nat, j ≤ a8.length ∧ i = .int .i64 j ∧ ∃ M F, AgR W wp r xp t 1048576 cr7 L1 (.slice sp8 a8.length cap8) a8 w9 M F G1 child ntid) (fun i _ => a8.length - (intOf i).toNat)
            case atStart => exact ⟨0, by omega, rfl, _, _, HI8.out⟩
            case round =>
              obtain ⟨j, hj, rfl, M9, F9, hI9⟩ := hrel
              have HI9 := hid hI9
              have hal9 : a8.length ≤ 256 := hal8.out
              clear hI9 HI8
              by_cases hjl : j < a8.length
              · obtain ⟨g9, hg9⟩ : ∃ x, a8[j] = x := ⟨_, rfl⟩
                obtain ⟨tid9, c9, f2, hM9, hv9⟩ := HI9.out.mem HAP.out hjl hg9
                obtain ⟨b9, off9, rfl, hc3⟩ := HI9.out.in_.all.cells.2 j hjl
                rw [hg9] at hc3
                have HM9 := hid hM9
                have hj0 : (0 : Int) ≤ (j : Int) := by omega
                have hjn : (j : Int) < (a8.length : Int) := by omega
                clear hM9 hg9
                by_cases hgc : g9 = child
                · subst hgc
                  rw [if_pos rfl] at hv9
                  have HV9 := hid hv9
                  clear hv9
                  have cC := wclock_any HI9.out.in_.duo.ws HM9.out.lk HM9.out.at_
                  go_upto_region 25 with (go_at_call 10; refine cC.mono ?_; rintro e w10 ⟨q2, F10, rfl, hq2, hT10⟩; have HI10 := hid (HI9.out.turn hT10 hq2); have HQ2 := hid (upd_same M9 q2 (some f2)); clear hq2 hT10 cC)
                  clear HI9 hc3
                  generalize upd M9 q2 (some f2) = M10 at *
                  have g2 := hid ((get_any HI10.out.in_.duo.ws.st.clk HQ2.out ntid).mono (R' := fun e w' => e = .returned (.int .i64 1) ∧ w10 = w') (fun e w' ⟨e1, e2⟩ => ⟨by rw [e1, HV9.out], e2⟩))
                  go_wp2_with (go_at_call 13; (with_reducible refine g2.out.mono ?_); rintro e w' ⟨rfl, rfl⟩)
                  go_roundw
                  case rel => exact ⟨j + 1, by omega, by go_num, _, _, HI10.out⟩
                  case measure => simp [intOf]; omega
                · rw [if_neg hgc] at hv9
                  have HV9 := hid hv9
                  have hgb : (g9 == child) = false := by simpa using hgc
                  have hgn : (g9 != child) = true := by simpa using hgc
                  clear hv9 hgc
                  have cC := wclock_any HI9.out.in_.duo.ws HM9.out.lk HM9.out.at_
                  go_upto_region 25 with (go_at_call 10; refine cC.mono ?_; rintro e w10 ⟨q2, F10, rfl, hq2, hT10⟩; have HI10 := hid (HI9.out.turn hT10 hq2); have HQ2 := hid (upd_same M9 q2 (some f2)); clear hq2 hT10 cC)
                  clear HI9 hc3
                  generalize upd M9 q2 (some f2) = M10 at *
                  have g2 := hid ((get_any HI10.out.in_.duo.ws.st.clk HQ2.out ntid).mono (R' := fun e w' => e = .returned (.int .i64 0) ∧ w10 = w') (fun e w' ⟨e1, e2⟩ => ⟨by rw [e1, HV9.out], e2⟩))
                  go_wp2_with (go_at_call 13; (with_reducible refine g2.out.mono ?_); rintro e w' ⟨rfl, rfl⟩)
                  go_roundw
                  case rel => exact ⟨j + 1, by omega, by go_num, _, _, HI10.out⟩
                  case measure => simp [intOf]; omega
              · go_wp2_with (go_at_call 8; refine (two_any _).mono ?_; rintro e w10 ⟨rfl, hs2⟩; have HS2 := hid hs2; clear hs2)
                go_ret
                exact ⟨rfl, HI9.out.in_.duo.ws.fr.trans HS2.out (fun _ x => x.elim)⟩
          · rw [hat] at hat0
            clear hat
            go_wp2_with (first
              | (go_at_call 21; refine cX.mono ?_; rintro e w5 ⟨rfl, hs5⟩)
              | (go_at_call 8; refine (two_any _).mono ?_; rintro e w6 ⟨rfl, hs2⟩; have HS2 := hid hs2; clear hs2))
            go_ret
            exact ⟨rfl, (HI4.out.duo.ws.fr.trans hs5 (fun _ x => x.elim)).trans HS2.out (fun _ x => x.elim)⟩
end Go.Proofs.Ytepdifajieegeaa
