/- WatchOwn: the walk. -/
import Derived.Test.YtepdifajieegeaaDoesB
namespace Go.Proofs.Ytepdifajieegeaa
open Go.RowKit

/-- a readable slice of steps -/
def StepsR (w : World) (v : Value) (n : Nat) : Prop :=
  ∃ sp cap, v = .slice sp n cap ∧ ∀ i, i < n → ∃ b off a g k p' n' c', sp = some ⟨b, off, none⟩ ∧ b < w.heap.size ∧ w.rangeAt b (off + i * 4) [.int .i64 a, .int .i64 g, .int .i64 k, .slice p' n' c'] ∧ (Lit.int .i64 k).wf = true

theorem does_any {w0 w wp r xp t m cr M F L G} (h : Duo w0 w wp r xp t m cr M F L G) (hp : L.Perm (crL cr)) {a : Int} (ha : a ≠ 2) (g : Int) {k : Int} (hk : (Lit.int .i64 k).wf = true) (p : Option Addr) (n c : Nat) :
    Calls Try.prog 19 #[ptr wp, ptr xp, stepV a g k (.slice p n c)] w (DoesP w0 wp r xp t m) := by
  by_cases h1 : a = 0 ∨ a = 1
  · exact does_spawn h hp h1 g hk p n c
  by_cases h2 : a = 3 ∨ a = 4
  · exact does_tell h hp h2 g k p n c
  by_cases h3 : a = 5
  · subst h3; exact does_retire h hp g k p n c
  · exact does_none h hp (by omega) g k p n c

/-- both, new -/
theorem duo_new {W w1 w2 wp r xp t m cr M F} (h : WS W w1 wp r t m cr M F) (hc : cr.map (fun x => (x.1, x.2.1)) = [(0, 0)]) (hr : RSt w2 xp t m [(0, 0)] (fun b => w1.heap.size ≤ b)) (hF : Fr (fun _ => False) w1 w2) :
    Duo W w2 wp r xp t m cr M F [(0, 0)] (fun b => w1.heap.size ≤ b ∧ b < w2.heap.size) ∧ List.Perm [(0, 0)] (crL cr) := by
  have h0 := h.fr.size
  refine ⟨⟨h.sil hF, hr.mono (fun b hb hl => ⟨hb, hl⟩), fun b hb e => ?_, fun b hb => hb.2, fun b hb => by have := hb.1; omega⟩, ?_⟩
  · have := h.st.lt b e
    have := hb.1
    omega
  · rw [crL, hc]

/-- a head of a round of the law's loop -/
def OwnR (W : World) (wp r xp : Nat) (t m : Int) (wr : World) : Prop := ∃ cr M F L G, Duo W wr wp r xp t m cr M F L G ∧ L.Perm (crL cr)
/-- what the inner loops keep: the crew, its keys' list -/
structure InR (W : World) (wp r xp : Nat) (t m : Int) (cr : Crew) (L : List (Int × Int)) (v : Value) (al : List Int) (wr : World) (M : Nat → Option (Nat → Int)) (F G : Nat → Prop) : Prop where
  duo : Duo W wr wp r xp t m cr M F L G
  all : IntsR wr v al (fun b => ¬ (b = r ∨ F b))
theorem InR.turn {W w w' wp r xp t m cr L v al M F G M' F'} (h : InR W wp r xp t m cr L v al w M F G) (k : Turn W w w' wp r t m F cr M' F') : InR W wp r xp t m cr L v al w' M' F' G := by
  refine ⟨h.duo.wturn k, ?_⟩
  have h1 := h.all.mono (C := fun b => ¬ (b = r ∨ F b) ∧ b < w.heap.size) (fun b hb hl => ⟨hb, hl⟩)
  have h2 := h1.keep (w' := w') (fun b hb hl => k.fr.keep b hl hb.1)
  refine h2.mono (fun b hb hl e => hb.1 ?_)
  rcases e with e | e
  · exact .inl e
  · rcases k.sub b e with x | x
    · exact .inr x
    · have := hb.2; omega
theorem InR.sil {W w w' wp r xp t m cr L v al M F G} (h : InR W wp r xp t m cr L v al w M F G) (k : Fr (fun _ => False) w w') : InR W wp r xp t m cr L v al w' M F G :=
  ⟨h.duo.sil k, h.all.keep (fun b _ hl => k.keep b hl (fun x => x))⟩

/-- the i-th of all -/
structure Mem (cr : Crew) (M : Nat → Option (Nat → Int)) (g : Int) (tid : Nat) (c : Nat) (f : Nat → Int) : Prop where
  lk : lk cr g = some ((tid : Int), c)
  at_ : M c = some f
theorem InR.mem {W wp r xp t m cr L v al wr M F G} (h : InR W wp r xp t m cr L v al wr M F G) (hp : al.Perm (cr.map (·.1))) {i : Nat} (hi : i < al.length) : ∃ tid c f, Mem cr M al[i] tid c f ∧ (tid : Int) < t := by
  have hm := hp.mem_iff.1 (List.getElem_mem hi)
  obtain ⟨x, hx, e⟩ := List.mem_map.1 hm
  obtain ⟨f, hf⟩ := h.duo.ws.st.cls x hx
  have hr := h.duo.ws.st.rng x hx
  refine ⟨x.2.1.toNat, x.2.2, f, ⟨?_, hf⟩, by omega⟩
  rw [← e, lk_of_mem h.duo.ws.st.keys hx]
  congr 1
  refine Prod.ext (by show x.2.1 = _; omega) rfl
/-- nobody knows more of another one than that one's own number -/
theorem Kn.le {cr M g h tid tid' c c'} {f f' : Nat → Int} (k : Kn cr M) (hg : Mem cr M g tid c f) (hh : Mem cr M h tid' c' f') : cg f' tid ≤ cg f tid := by
  rw [cg_nn (by omega), cg_nn (by omega)]
  exact (k _ (lk_mem hh.lk) f' hh.at_).1 _ (lk_mem hg.lk) f hg.at_ _ (by simp)
/-- no two have one tid -/
theorem Mem.ne {W w wp r xp t m cr L G M M' F g h tid tid' c c'} {f f' : Nat → Int} (d : Duo W w wp r xp t m cr M F L G) (hg : Mem cr M' g tid c f) (hh : Mem cr M h tid' c' f') (hne : g ≠ h) : (tid : Int) ≠ (tid' : Int) := by
  intro e
  have := d.ws.st.tids_eq (lk_mem hg.lk) (lk_mem hh.lk) e
  simp only [Prod.mk.injEq] at this
  exact hne this.1
theorem IntsR.at_ {w : World} {v : Value} {l : List Int} {B : Nat → Prop} (h : IntsR w v l B) : ∃ sp cap, v = .slice sp l.length cap ∧ ∀ i, (hi : i < l.length) → ∃ b off, sp = some ⟨b, off, none⟩ ∧ w.cell? ⟨b, off + i, none⟩ = some (.int .i64 l[i]) := by
  obtain ⟨sp, cap, e, hx⟩ := h
  exact ⟨sp, cap, e, fun i hi => by obtain ⟨b, off, e, _, hc⟩ := hx i hi; exact ⟨b, off, e, hc⟩⟩

theorem IntsR.cells {w : World} {sp : Option Addr} {n cap : Nat} {l : List Int} {B : Nat → Prop} (h : IntsR w (.slice sp n cap) l B) : n = l.length ∧ ∀ i, (hi : i < l.length) → ∃ b off, sp = some ⟨b, off, none⟩ ∧ w.cell? ⟨b, off + i, none⟩ = some (.int .i64 l[i]) := by
  obtain ⟨sp', cap', e, hx⟩ := h.at_
  cases e
  exact ⟨rfl, hx⟩
theorem all_len {w wp r t m cr M F} (h : WSt w wp r t m cr M F) {al : List Int} (hp : al.Perm (cr.map (·.1))) : al.length ≤ 256 := by
  have h1 := hp.length_eq
  have h2 := h.len
  have h3 := h.tb
  simp only [List.length_map] at h1
  omega
theorem InR.start {W w w' wp r xp t m cr L v al M F G} (h : Duo W w wp r xp t m cr M F L G) (hi : IntsR w' v al (fun b => w.heap.size ≤ b)) (hs : Fr (fun _ => False) w w') : InR W wp r xp t m cr L v al w' M F G :=
  ⟨h.sil hs, hi.mono fun b hb _ e => by
    have := h.ws.st.lt b (by rcases e with e | e; exact .inr (.inl e); exact .inr (.inr e))
    omega⟩
/-- behind the outer one's clock: it stands beside the crew -/
structure InC (W : World) (wp r xp : Nat) (t m : Int) (cr : Crew) (L : List (Int × Int)) (v : Value) (al : List Int) (wr : World) (M : Nat → Option (Nat → Int)) (F G : Nat → Prop) (g : Int) (tid c q : Nat) (f : Nat → Int) : Prop where
  in_ : InR W wp r xp t m cr L v al wr M F G
  mem : Mem cr M g tid c f
  q : M q = some f
theorem InR.first {W w w' wp r xp t m cr L v al M F G F' g tid c q} {f : Nat → Int} (h : InR W wp r xp t m cr L v al w M F G) (k : Turn W w w' wp r t m F cr (upd M q (some f)) F') (hM : Mem cr M g tid c f) (hq : w.heap.size ≤ q) : InC W wp r xp t m cr L v al w' (upd M q (some f)) F' G g tid c q f :=
  ⟨h.turn k, ⟨hM.lk, (upd_ne _ _ (h.duo.ws.st.new_ne hq _ (lk_mem hM.lk))).trans hM.at_⟩, upd_same _ _ _⟩
theorem InC.sil {W w w' wp r xp t m cr L v al M F G g tid c q} {f : Nat → Int} (h : InC W wp r xp t m cr L v al w M F G g tid c q f) (k : Fr (fun _ => False) w w') : InC W wp r xp t m cr L v al w' M F G g tid c q f := ⟨h.in_.sil k, h.mem, h.q⟩
theorem InC.turn {W w w' wp r xp t m cr L v al M F G F' g tid c q q'} {f f' : Nat → Int} (h : InC W wp r xp t m cr L v al w M F G g tid c q f) (k : Turn W w w' wp r t m F cr (upd M q' (some f')) F') (hq : w.heap.size ≤ q') : InC W wp r xp t m cr L v al w' (upd M q' (some f')) F' G g tid c q f := by
  have h1 := h.in_.duo.ws.st.clk.fin _ (h.in_.duo.ws.st.clk.at_ _ _ h.q).1
  exact ⟨h.in_.turn k, ⟨h.mem.lk, (upd_ne _ _ (h.in_.duo.ws.st.new_ne hq _ (lk_mem h.mem.lk))).trans h.mem.at_⟩, (upd_ne _ _ (by omega)).trans h.q⟩

theorem all_ne {w wp r t m cr M F} (h : WSt w wp r t m cr M F) {al : List Int} (hp : al.Perm (cr.map (·.1))) {i j : Nat} (hi : i < al.length) (hj : j < al.length) {a b : Int} (ha : al[i] = a) (hb : al[j] = b) (hne : i ≠ j) : a ≠ b := by
  rintro rfl
  have hn : al.Nodup := hp.nodup_iff.2 h.keys
  exact hne ((List.getElem_inj (h₀ := hi) (h₁ := hj) hn).1 (ha.trans hb.symm))

set_option maxRecDepth 100000 in
set_option maxHeartbeats 4000000 in
theorem watchOwn_any (W : World) (t m : Int) {v : Value} {n : Nat} (hv : StepsR W v n) (hn : n ≤ 9223372036854775807) : Calls Try.prog 5 #[.int .i64 t, .int .i64 m, v] W (SilRet W (.bool true)) := by
  obtain ⟨sp, cap, rfl, hs⟩ := hv
  by_cases hb : t < 1 ∨ 256 < t ∨ m < 1 ∨ 1048576 < m
  · have hN := hid (new_bad W hb)
    have hX := hid (rnew_bad W hb)
    clear hs hb
    go_enter Try.func5, Try.ntmps5
    go_wp2_with (first
      | (go_at_call 7; refine hN.out.mono ?_; rintro e w1 ⟨rfl, rfl⟩)
      | (go_at_call 18; refine hX.out.mono ?_; rintro e w1 ⟨rfl, rfl⟩)
      | (go_at_call 8; refine (two_any _).mono ?_; rintro e w2 ⟨rfl, hs2⟩; have HS2 := hid hs2; clear hs2))
    go_ret
    exact ⟨rfl, HS2.out⟩
  · have hN := hid (wnew_any W (t := t) (m := m) (by omega) (by omega))
    have hX := hid (fun w => rnew_ok w (t := t) (m := m) (by omega) (by omega))
    clear hb
    go_enter Try.func5, Try.ntmps5
    go_upto_region 3 with (first
      | (go_at_call 7; refine hN.out.mono ?_; rintro e w1 ⟨wp, r, cr0, M0, F0, rfl, hW, hc⟩; have HW := hid hW; have HC := hid hc; clear hW hc)
      | (go_at_call 18; refine (hX.out w1).mono ?_; rintro e w2 ⟨xp, rfl, hR, hF⟩; have HD := hid (duo_new HW.out HC.out hR hF); clear hR hF))
    clear hN hX HW HC
    by_cases hlen : 150 < (n : Int)
    · clear hs
      go_wp2_with (go_at_call 8; refine (two_any _).mono ?_; rintro e w3 ⟨rfl, hs2⟩; have HS2 := hid hs2; clear hs2)
      go_ret
      exact ⟨rfl, HD.out.1.ws.fr.trans HS2.out (fun _ x => x.elim)⟩
    · have HS := hid hs
      have HD0 : Hid (OwnR W wp r xp t m w2) := hid ⟨_, _, _, _, _, HD.out.1, HD.out.2⟩
      clear hs HD
      go_wp2_with fail
      go_loopw [63] (fun i wr => ∃ k : Nat, k ≤ n ∧ i = .int .i64 k ∧ OwnR W wp r xp t m wr) (fun i _ => n - (intOf i).toNat)
      case atStart => exact ⟨0, by omega, rfl, HD0.out⟩
      case round =>
        obtain ⟨k, hk, rfl, hR⟩ := hrel
        have HR := hid hR
        clear hR HD0
        by_cases hlt : k < n
        · obtain ⟨b, off, a, g, kk, p', n', c', rfl, hbl, hr, hwf⟩ := HS.out k hlt
          have hFr : Fr (fun _ => False) W wr := by obtain ⟨_, _, _, _, _, hD, _⟩ := HR.out; exact hD.ws.fr
          have HRG := hid (range_keep hr (hFr.keep b hbl (fun x => x)))
          have HWF := hid hwf
          have hi4 : (Try.prog.info? 47).map (·.size) = some [Value.int .i64 a, .int .i64 g, .int .i64 kk, .slice p' n' c'].length := by kernel_rfl
          have hi4' : (Try.prog.info? 47).map (·.size) = some #[Value.int .i64 a, .int .i64 g, .int .i64 kk, .slice p' n' c'].size := by kernel_rfl
          have hk0 : (0 : Int) ≤ (k : Int) := by omega
          have hkn : (k : Int) < (n : Int) := by omega
          clear hr hwf hFr
          by_cases ha : a = 2
          · subst ha
            go_wp2_with (refine wpList_load_mid (op := ⟨some 66, _, _, _, _, _⟩) rfl 47 _ rfl b (off + k * 4) rfl _ _ HRG.out Try.underlying47 rfl hi4 ?_)
            go_roundw
            case rel =>
              obtain ⟨_, _, _, _, _, hD, hP⟩ := HR.out
              exact ⟨k + 1, by omega, by go_num, _, _, _, _, _, hD.sil ((Fr.refl _ _).alloc _), hP⟩
            case measure => simp [intOf]; omega
          · have ha2 : (a == 2) = false := by simpa using ha
            have HA := hid ha
            clear ha
            obtain ⟨cr0, M0, F0, L0, G0, hD, hP⟩ := HR.out
            have HD0 := hid hD
            have HP0 := hid hP
            clear hD hP
            go_upto_region 9 with (refine wpList_load_mid (op := ⟨some 66, _, _, _, _, _⟩) rfl 47 _ rfl b (off + k * 4) rfl _ _ HRG.out Try.underlying47 rfl hi4 ?_)
            have HD1 := hid (HD0.out.sil ((Fr.refl (fun _ => False) wr).alloc (.cells #[.int .i64 a, .int .i64 g, .int .i64 kk, .slice p' n' c'] 47)))
            go_upto_region 10 with (go_at_call 19; refine (does_any HD1.out HP0.out HA.out g HWF.out p' n' c').mono ?_; rintro e w3 ⟨⟨bb, rfl⟩, cr1, M1, F1, L1, G1, hD1, hP1⟩; have HD3 := hid hD1; have HP3 := hid hP1; clear hD1 hP1)
            clear HD1 HD0 HP0 HR
            have cA := all_any HD3.out.ws.st HD3.out.ws.wf
            go_wp2_with (go_at_call 20; refine cA.mono ?_; rintro e w4 ⟨va, al, rfl, hap, hai, hs4⟩; obtain ⟨sp2, cap2, rfl, _⟩ := hai.at_; have HAP := hid hap; have HI4 := hid (InR.start HD3.out hai hs4); have hal := hid (all_len HD3.out.ws.st hap); clear hap hai hs4 cA)
            go_loopw [78] (fun i w5 => ∃ j : Nat, j ≤ al.length ∧ i = .int .i64 j ∧ ∃ M F, InR W wp r xp t m cr1 L1 (.slice sp2 al.length cap2) al w5 M F G1) (fun i _ => al.length - (intOf i).toNat)
            case atStart => exact ⟨0, by omega, rfl, _, _, HI4.out⟩
            case round =>
              obtain ⟨j, hj, rfl, M5, F5, hI5⟩ := hrel
              have HI5 := hid hI5
              have hal1 : al.length ≤ 256 := hal.out
              clear hI5 HI4
              by_cases hjl : j < al.length
              · obtain ⟨tid, c, f, hM, htid⟩ := HI5.out.mem HAP.out hjl
                obtain ⟨b2, off2, rfl, hc2⟩ := HI5.out.all.cells.2 j hjl
                obtain ⟨gj, hgj⟩ : ∃ x, al[j] = x := ⟨_, rfl⟩
                rw [hgj] at hM hc2
                have HM5 := hid hM
                have HGJ := hid hgj
                have hj0 : (0 : Int) ≤ (j : Int) := by omega
                have hjn : (j : Int) < (al.length : Int) := by omega
                clear hM hgj
                have cT := tid_some HI5.out.duo.ws.st HM5.out.lk
                go_upto_region 15 with (go_at_call 23; refine cT.mono ?_; rintro e w6 ⟨rfl, hs6⟩; have HI6 := hid (HI5.out.sil hs6); clear hs6 cT)
                clear hc2 HI5
                have cC := wclock_any HI6.out.duo.ws HM5.out.lk HM5.out.at_
                go_wp2_with (go_at_call 10; refine cC.mono ?_; rintro e w7 ⟨q, F7, rfl, hq7, hT7⟩; have HI7 := hid (InR.first HI6.out hT7 HM5.out hq7); clear hq7 hT7 cC)
                clear HI6 htid
                generalize upd M5 q (some f) = M7 at *
                go_loopw [104] (fun i w8 => ∃ j2 : Nat, j2 ≤ al.length ∧ i = .int .i64 j2 ∧ ∃ M F, InC W wp r xp t m cr1 L1 (.slice (some ⟨b2, off2, none⟩) al.length cap2) al w8 M F G1 gj tid c q f) (fun i _ => al.length - (intOf i).toNat)
                case atStart => exact ⟨0, by omega, rfl, _, _, HI7.out⟩
                case round =>
                  obtain ⟨j2, hj2, rfl, M8, F8, hI8⟩ := hrel
                  have HI8 := hid hI8
                  clear hI8 HI7
                  by_cases hjl2 : j2 < al.length
                  · obtain ⟨tid2, c2, f2, hM2, _⟩ := HI8.out.in_.mem HAP.out hjl2
                    obtain ⟨b3, off3, e3, hc3⟩ := HI8.out.in_.all.cells.2 j2 hjl2
                    obtain ⟨g2, hg2⟩ : ∃ x, al[j2] = x := ⟨_, rfl⟩
                    rw [hg2] at hM2 hc3
                    cases e3
                    have HM8 := hid hM2
                    have HG2 := hid hg2
                    have hj20 : (0 : Int) ≤ (j2 : Int) := by omega
                    have hj2n : (j2 : Int) < (al.length : Int) := by omega
                    have hle := HI8.out.in_.duo.ws.kn.le HI8.out.mem hM2
                    obtain ⟨x1, hx1⟩ : ∃ x, cg f tid = x := ⟨_, rfl⟩
                    obtain ⟨x2, hx2⟩ : ∃ x, cg f2 tid = x := ⟨_, rfl⟩
                    rw [hx1, hx2] at hle
                    have HX1 := hid hx1
                    have HX2 := hid hx2
                    have hdt : Hid (j2 ≠ j → (tid : Int) ≠ (tid2 : Int)) := hid (fun hne => Mem.ne HI8.out.in_.duo HI8.out.mem hM2 (all_ne HI8.out.in_.duo.ws.st HAP.out hjl hjl2 HGJ.out hg2 (Ne.symm hne)))
                    clear hM2 hg2 hx1 hx2
                    by_cases hjj : j2 = j
                    · have hjb : ((j2 : Int) != (j : Int)) = false := by simp [hjj]
                      clear hdt hjj
                      have cT := tid_some HI8.out.in_.duo.ws.st HM8.out.lk
                      go_upto_region 22 with (go_at_call 23; refine cT.mono ?_; rintro e w9 ⟨rfl, hs9⟩; have HI9 := hid (HI8.out.sil hs9); clear hs9 cT)
                      clear hc3 HI8
                      have cC := wclock_any HI9.out.in_.duo.ws HM8.out.lk HM8.out.at_
                      go_upto_region 23 with (go_at_call 10; refine cC.mono ?_; rintro e w10 ⟨q2, F10, rfl, hq2, hT10⟩; have HI10 := hid (HI9.out.turn hT10 hq2); have HQ2 := hid (upd_same M8 q2 (some f2)); clear hq2 hT10 cC)
                      clear HI9
                      generalize upd M8 q2 (some f2) = M10 at *
                      have g2 := hid ((get_any HI10.out.in_.duo.ws.st.clk HQ2.out tid).mono (R' := fun e w' => e = .returned (.int .i64 x2) ∧ w10 = w') (fun e w' ⟨e1, e2⟩ => ⟨by rw [e1, HX2.out], e2⟩))
                      have g1 := hid ((get_any HI10.out.in_.duo.ws.st.clk HI10.out.q tid).mono (R' := fun e w' => e = .returned (.int .i64 x1) ∧ w10 = w') (fun e w' ⟨e1, e2⟩ => ⟨by rw [e1, HX1.out], e2⟩))
                      go_wp2_with (first | (go_at_call 13; (with_reducible refine g2.out.mono ?_); rintro e w' ⟨rfl, rfl⟩) | (go_at_call 13; (with_reducible refine g1.out.mono ?_); rintro e w' ⟨rfl, rfl⟩))
                      go_roundw
                      case rel => exact ⟨j2 + 1, by omega, by go_num, _, _, HI10.out⟩
                      case measure => simp [intOf]; omega
                    · have hjb : ((j2 : Int) != (j : Int)) = true := by simp; omega
                      have htb : ((tid : Int) == (tid2 : Int)) = false := by simpa using hdt.out hjj
                      clear hdt hjj
                      have cT := tid_some HI8.out.in_.duo.ws.st HM8.out.lk
                      go_upto_region 22 with (go_at_call 23; refine cT.mono ?_; rintro e w9 ⟨rfl, hs9⟩; have HI9 := hid (HI8.out.sil hs9); clear hs9 cT)
                      clear hc3 HI8
                      have cC := wclock_any HI9.out.in_.duo.ws HM8.out.lk HM8.out.at_
                      go_upto_region 23 with (go_at_call 10; refine cC.mono ?_; rintro e w10 ⟨q2, F10, rfl, hq2, hT10⟩; have HI10 := hid (HI9.out.turn hT10 hq2); have HQ2 := hid (upd_same M8 q2 (some f2)); clear hq2 hT10 cC)
                      clear HI9
                      generalize upd M8 q2 (some f2) = M10 at *
                      have g2 := hid ((get_any HI10.out.in_.duo.ws.st.clk HQ2.out tid).mono (R' := fun e w' => e = .returned (.int .i64 x2) ∧ w10 = w') (fun e w' ⟨e1, e2⟩ => ⟨by rw [e1, HX2.out], e2⟩))
                      have g1 := hid ((get_any HI10.out.in_.duo.ws.st.clk HI10.out.q tid).mono (R' := fun e w' => e = .returned (.int .i64 x1) ∧ w10 = w') (fun e w' ⟨e1, e2⟩ => ⟨by rw [e1, HX1.out], e2⟩))
                      go_wp2_with (first | (go_at_call 13; (with_reducible refine g2.out.mono ?_); rintro e w' ⟨rfl, rfl⟩) | (go_at_call 13; (with_reducible refine g1.out.mono ?_); rintro e w' ⟨rfl, rfl⟩))
                      go_roundw
                      case rel => exact ⟨j2 + 1, by omega, by go_num, _, _, HI10.out⟩
                      case measure => simp [intOf]; omega
                  · go_wp2_with fail
                    go_roundw
                    case rel => exact ⟨j + 1, by omega, by go_num, _, _, HI8.out.in_⟩
                    case measure => simp [intOf]; omega
              · go_wp2_with fail
                go_roundw
                case rel => exact ⟨k + 1, by omega, by go_num, _, _, _, _, _, HI5.out.duo, HP3.out⟩
                case measure => simp [intOf]; omega
        · go_wp2_with (go_at_call 8; refine (two_any _).mono ?_; rintro e w3 ⟨rfl, hs2⟩; have HS2 := hid hs2; clear hs2)
          go_ret
          obtain ⟨_, _, _, _, _, hD, _⟩ := HR.out
          exact ⟨rfl, hD.ws.fr.trans HS2.out (fun _ x => x.elim)⟩
end Go.Proofs.Ytepdifajieegeaa
