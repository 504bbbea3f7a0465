/- Clocks: Join. -/
import Derived.Test.YtepdifajieegeaaClkC
namespace Go.Proofs.Ytepdifajieegeaa
open Go.RowKit

/-- the greater numbers -/
def mxf (f g : Nat → Int) : Nat → Int := fun i => if f i < g i then g i else f i
/-- the greater numbers, up to k -/
def jnf (f g : Nat → Int) (k : Nat) : Nat → Int := fun i => if i < k then mxf f g i else f i
theorem jnf_succ (f g : Nat → Int) (k : Nat) : jnf f g (k + 1) = upd (jnf f g k) k (mxf f g k) := by
  funext i; unfold jnf upd
  by_cases e : i = k
  · subst e; simp
  · simp only [e, if_false]; by_cases h : i < k
    · rw [if_pos h, if_pos (by omega)]
    · rw [if_neg h, if_neg (by omega)]

structure JRel (w : World) (M : Nat → Option (Nat → Int)) (F : Nat → Prop) (p q : Nat) (f g : Nat → Int) (b : Nat) (sh' : Bool) (bk' : Option Nat) (ys : List Int) (cap' : Nat) (n : Nat) (cap : Nat) (k : Nat) (wr : World) : Prop where
  own : ∃ xs, xs.length = n ∧ ClkAt wr p (jnf f g k) false (some b) xs cap
  oth : ClkAt wr q g sh' bk' ys cap'
  clk : Clks wr (upd M p (some (jnf f g k))) (Gr F w wr)
  fr : Fr F w wr

theorem JRel.start {w w1 : World} {M F p q f g b sh' bk' ys cap' xs cap} (hM : M p = some f) (hp : ClkAt w1 p f false (some b) xs cap) (ho : ClkAt w1 q g sh' bk' ys cap') (hC : Clks w1 M (Gr F w w1)) (hF : Fr F w w1) :
    JRel w M F p q f g b sh' bk' ys cap' xs.length cap 0 w1 := by
  have e : jnf f g 0 = f := by funext i; simp [jnf]
  exact ⟨⟨xs, rfl, by rw [e]; exact hp⟩, ho, by rw [e, upd_id hM]; exact hC, hF⟩

theorem JRel.step {w wr : World} {M F p q f g b sh' bk' ys cap' n cap k} (h : JRel w M F p q f g b sh' bk' ys cap' n cap k wr) (hpq : p ≠ q) (hq : M q = some g) (hk : k < ys.length) (hn : ys.length ≤ n) {v : Int} (hv : v = mxf f g k) :
    JRel w M F p q f g b sh' bk' ys cap' n cap (k + 1) (wr.setCell ⟨b, k, none⟩ (.int .i64 v)) := by
  obtain ⟨xs, rfl, hp⟩ := h.own
  have r1 := hp.rngf k
  have r2 := h.oth.rngf k
  have hf : jnf f g k k = f k := by simp [jnf]
  have hv0 : 0 ≤ v ∧ v ≤ 1048576 := by
    rw [hf] at r1; subst hv; unfold mxf; split
    · exact r2
    · exact r1
  obtain ⟨c1, c2⟩ := h.clk.store (upd_same _ _ _) hp (t := k) (by omega) hv0.1 hv0.2
  have e : upd (upd M p (some (jnf f g k))) p (some (upd (jnf f g k) k v)) = upd M p (some (jnf f g (k + 1))) := by
    rw [jnf_succ, ← hv]; funext x; simp only [upd]; split <;> rfl
  rw [e] at c1
  rw [hv, ← jnf_succ, ← hv] at c2
  obtain ⟨arr, ha, _⟩ := hp.bd b rfl
  have hb : F b ∨ w.heap.size ≤ b := by
    obtain ⟨_, sh0, bk0, xs0, cap0, k0, hb0⟩ := h.clk.at_ p _ (upd_same _ _ _)
    obtain ⟨rfl, rfl, _⟩ := hp.uniq k0
    rcases hb0 b rfl with g | g
    · exact .inl g
    · exact .inr g.1
  refine ⟨⟨_, by simp, c2⟩, h.oth.keep (heap_setCell_ne _ _ _ (Ne.symm (h.oth.ne ha))) ?_, ?_, h.fr.setCell hb _⟩
  · rintro b' rfl
    refine heap_setCell_ne _ _ _ ?_
    rintro rfl
    have := h.clk.sep p q _ g false sh' b' _ ys cap cap' hpq (upd_same _ _ _) (by rw [upd_ne _ _ (Ne.symm hpq)]; exact hq) hp h.oth
    cases this
  · have e2 : Gr F w (wr.setCell ⟨b, k, none⟩ (.int .i64 v)) = Gr F w wr := by funext x; simp [Gr]
    rw [e2]; exact c1

theorem JRel.drew {w wr : World} {M F p q f g b sh' bk' ys cap' n cap k} (h : JRel w M F p q f g b sh' bk' ys cap' n cap k wr) : JRel w M F p q f g b sh' bk' ys cap' n cap k wr.drew := by
  obtain ⟨xs, e, hp⟩ := h.own
  exact ⟨⟨xs, e, hp.drew⟩, h.oth.drew, h.clk.drew, h.fr.drew⟩

theorem JRel.done {w wr : World} {M F p q f g b sh' bk' ys cap' n cap} (h : JRel w M F p q f g b sh' bk' ys cap' n cap ys.length wr) (h0 : ∀ i, 0 ≤ f i) : Clks wr (upd M p (some (mxf f g))) (Gr F w wr) ∧ Fr F w wr := by
  have e : jnf f g ys.length = mxf f g := by
    funext i; unfold jnf; split
    · rfl
    · rename_i hi
      have := h.oth.out (i := i) (by omega)
      have := h0 i
      unfold mxf; rw [if_neg (by omega)]
  have := h.clk
  rw [e] at this
  exact ⟨this, h.fr⟩

def JoinPost (w : World) (F : Nat → Prop) (M' : Nat → Option (Nat → Int)) (e : Ending) (w' : World) : Prop :=
  (∃ b, e = .returned (.bool b)) ∧ Clks w' M' (Gr F w w') ∧ Fr F w w'

theorem cwi_false {w M F p q f g} (hC : Clks w M F) (hp : M p = some f) (hq : M q = some g) (h : cwi g f = false) : p ≠ q := by
  rintro rfl
  rw [hp] at hq; cases hq
  have := (cwi_iff hC hp hp).2 (fun i => Int.le_refl _)
  rw [this] at h; cases h

set_option maxRecDepth 100000 in
set_option maxHeartbeats 400000 in
theorem join_any {w : World} {M F p q f g} (hC : Clks w M F) (hM : M p = some f) (hQ : M q = some g) :
    Calls Try.prog 33 #[ptr p, ptr q] w (JoinPost w F (upd M p (some (mxf f g)))) := by
  have hW := within_any hC hQ hM
  have hI := hid (cwi_iff hC hQ hM)
  cases hc : cwi g f with
  | true =>
    have e : mxf f g = f := by
      funext i; have := hI.out.1 hc i; unfold mxf; rw [if_neg (by omega)]
    rw [hc] at hW
    have E := hid e
    clear e hc hI
    go_enter Try.func33, Try.ntmps33
    go_wp2_with (go_at_call 17; refine hW.mono ?_; rintro e w' ⟨rfl, rfl⟩)
    go_ret
    exact ⟨⟨false, rfl⟩, by rw [E.out, upd_id hM, Gr.self]; exact hC, Fr.refl _ _⟩
  | false =>
    have hpq := cwi_false hC hM hQ hc
    rw [hc] at hW
    obtain ⟨fp, _, _, _, _, hp0, _⟩ := hC.at_ p f hM
    have h0 := hid (fun i => (hp0.rngf i).1)
    have HP0 := hid hp0
    obtain ⟨_, sh', bk', ys, cap', hq, _⟩ := hC.at_ q g hQ
    have hy : ys ≠ [] := by
      rintro rfl
      have : cwi g f = true := hI.out.2 (fun i => by rw [hq.out (by simp)]; exact h0.out i)
      rw [this] at hc; cases hc
    have hy1 : 1 ≤ ys.length := by cases ys; exact absurd rfl hy; simp
    have hylen := hq.len
    cases bk' with
    | none => exact absurd (hq.nl rfl).1 hy
    | some b' =>
    have HQ := hid hq
    have HPQ := hid hpq
    have cq := hq.c0b
    clear hp0 hc hI hq hy hpq
    have hO := own_any hC hM hy1 hylen
    go_enter Try.func33, Try.ntmps33
    go_upto_region 4 with (first | (go_at_call 17; refine hW.mono ?_; rintro e w' ⟨rfl, rfl⟩) | (go_at_call 48; refine hO.mono ?_; rintro e w1 ⟨rfl, b, xs, cap, hp, hn, _, hC1, hF1, hF2⟩))
    have hq1 : ClkAt w1 q g sh' (some b') ys cap' := HQ.out.keep (hF2.keep q (heap_lt HQ.out.hd) (Ne.symm HPQ.out)) (by
      intro b1 e; cases e
      obtain ⟨arr, ha, _⟩ := HQ.out.bd b' rfl
      exact hF2.keep b' (heap_lt ha) (HP0.out.ne ha))
    have hJ := hid (JRel.start hM hp hq1 hC1 hF1)
    have cq1 := hq1.c0b
    clear hq1 hp hC1 hF1 hF2 hO hW cq
    obtain ⟨n, hn'⟩ : ∃ n, n = xs.length := ⟨_, rfl⟩
    rw [← hn'] at hJ hn
    clear hn'
    go_wp2_with fail
    go_loopw [5, 6, 26] (fun _ _ i wr => ∃ k : Nat, k ≤ ys.length ∧ i = .int .i64 k ∧ JRel w M F p q f g b sh' (some b') ys cap' n cap k wr) (fun _ _ i _ => ys.length - (intOf i).toNat)
    case atStart => exact ⟨0, Nat.zero_le _, rfl, hJ.out⟩
    case round =>
      obtain ⟨k, hk, rfl, hrel⟩ := hrel
      have HR := hid hrel
      by_cases hlt : k < ys.length
      · obtain ⟨zs, hz, hpz⟩ := hrel.own
        have c0 := hpz.c0b
        rw [hz] at c0
        have cx := hpz.cb (i := k) (by omega)
        have fx := hpz.fb k
        have cy := hrel.oth.cb hlt
        have e1 : zs[k]'(by omega) = f k := by rw [← hpz.inn (by omega)]; simp [jnf]
        have e2 : ys[k] = g k := (hrel.oth.inn hlt).symm
        rw [e1] at cx
        rw [e2] at cy
        obtain ⟨u, hu⟩ : ∃ u, u = f k := ⟨_, rfl⟩
        obtain ⟨v, hv⟩ : ∃ v, v = g k := ⟨_, rfl⟩
        rw [← hu] at cx
        rw [← hv] at cy
        have HU := hid hu
        have HV := hid hv
        have b1 := hpz.rngf k
        clear hrel hpz e1 e2 hu hv hz
        go_wp2_with fail
        go_region
        go_wp2_with fail
        go_roundw
        case rel =>
          refine ⟨k + 1, by omega, by go_num, ?_⟩
          have := HR.out.step HPQ.out hQ hlt hn (v := if u < v then v else u) (by rw [HU.out, HV.out]; rfl)
          exact this.drew
        case measure => simp [intOf]; omega
      · have hk' : k = ys.length := by omega
        clear hrel
        go_wp2_with fail
        go_ret
        subst hk'
        obtain ⟨r1, r2⟩ := HR.out.done h0.out
        exact ⟨⟨true, rfl⟩, r1, r2⟩
end Go.Proofs.Ytepdifajieegeaa
