/- Clocks: what each method does. -/
import Derived.Test.YtepdifajieegeaaRows
import Derived.Test.YtepdifajieegeaaClkA
import Derived.Test.YtepdifajieegeaaLaws
namespace Go.Proofs.Ytepdifajieegeaa
open Go.RowKit

abbrev ptr (p : Nat) : Value := .pointer (some ⟨p, 0, none⟩)
/-- a clock's number, at any tid -/
def cg (f : Nat → Int) (t : Int) : Int := if t < 0 then 0 else f t.toNat

theorem cg_neg {f : Nat → Int} {t : Int} (h : t < 0) : cg f t = 0 := by simp [cg, h]
theorem cg_nn {f : Nat → Int} {t : Int} (h : 0 ≤ t) : cg f t = f t.toNat := by unfold cg; rw [if_neg (by omega)]

set_option maxHeartbeats 400000 in
theorem get_any {w : World} {M F p f} (hC : Clks w M F) (hM : M p = some f) (t : Int) :
    Calls Try.prog 13 #[ptr p, .int .i64 t] w fun e w' => e = .returned (.int .i64 (cg f t)) ∧ w = w' := by
  obtain ⟨_, sh, bk, xs, cap, h, _⟩ := hC.at_ p f hM
  have hd := cell_blk h.hd
  have c0 := hd 0
  simp only [List.getElem?_toArray, List.getElem?_cons_zero] at c0
  have hlen := h.len
  clear hd
  by_cases h0 : t < 0
  · have e0 := cg_neg (f := f) h0
    have E := hid e0
    clear e0
    go_enter Try.func13, Try.ntmps13
    go_wp2
    go_ret
    exact ⟨ret_int E.out.symm, rfl⟩
  · by_cases h1 : t < xs.length
    · cases bk with
      | none => have := (h.nl rfl).1; subst this; simp at h1; omega
      | some b =>
        obtain ⟨arr, ha, hx⟩ := h.bd b rfl
        obtain ⟨k, rfl⟩ : ∃ k : Nat, t = k := ⟨t.toNat, by omega⟩
        have hk : k < xs.length := by omega
        have cx := (cell_blk ha k).trans (hx k hk)
        have e1 : cg f (k : Int) = xs[k] := by rw [cg_nn (by omega)]; exact h.inn hk
        have E := hid e1
        clear e1 hx ha
        go_enter Try.func13, Try.ntmps13
        go_wp2
        go_ret
        exact ⟨ret_int E.out.symm, rfl⟩
    · have e0 : cg f t = 0 := by rw [cg_nn (by omega)]; exact h.out (by omega)
      have E := hid e0
      clear e0
      go_enter Try.func13, Try.ntmps13
      go_wp2
      go_ret
      exact ⟨ret_int E.out.symm, rfl⟩

/-- is one clock within another one? -/
def cwi (f g : Nat → Int) : Bool := (List.range 256).all fun i => decide (f i ≤ g i)
theorem cwi_iff {w M F p q f g} (hC : Clks w M F) (hp : M p = some f) (hq : M q = some g) : cwi f g = true ↔ ∀ i, f i ≤ g i := by
  obtain ⟨_, sh, bk, xs, cap, h, _⟩ := hC.at_ p f hp
  obtain ⟨_, sh', bk', ys, cap', h', _⟩ := hC.at_ q g hq
  simp only [cwi, List.all_eq_true, List.mem_range, decide_eq_true_eq]
  constructor
  · intro hh i
    by_cases hi : i < 256
    · exact hh i hi
    · rw [h.out (by have := h.len; omega)]; exact (h'.rngf i).1
  · exact fun hh i _ => hh i

set_option maxHeartbeats 400000 in
theorem within_nil (v : Value) (w : World) : Calls Try.prog 17 #[.pointer none, v] w fun e w' => e = .returned (.bool true) ∧ w = w' := by
  go_enter Try.func17, Try.ntmps17
  go_wp2
  go_ret
  exact ⟨rfl, rfl⟩

set_option maxHeartbeats 400000 in
theorem within_any {w : World} {M F p q f g} (hC : Clks w M F) (hM : M p = some f) (hQ : M q = some g) :
    Calls Try.prog 17 #[ptr p, ptr q] w fun e w' => e = .returned (.bool (cwi f g)) ∧ w = w' := by
  have hI := hid (cwi_iff hC hM hQ)
  have hG := fun t => get_any hC hQ t
  obtain ⟨_, sh, bk, xs, cap, h, _⟩ := hC.at_ p f hM
  obtain ⟨_, sh', bk', ys, cap', h', _⟩ := hC.at_ q g hQ
  have hg0 := hid (fun i => (h'.rngf i).1)
  have hlen := h.len
  have hc := h.cells
  clear h' h
  rcases hc with ⟨_, rfl, rfl, hz, c0⟩ | ⟨b, _, c0, hx, hz, _⟩
  · have HZ := hid hz
    clear hz
    go_enter Try.func17, Try.ntmps17
    go_wp2_with fail
    go_loop [5, 6, 14] (fun _ _ i => i = .int .i64 0) (fun _ _ i => 0)
    case atStart => exact rfl
    case round =>
      obtain rfl := hrel
      go_wp2_with fail
      go_ret
      refine ⟨ret_bool ?_, rfl⟩
      symm; rw [hI.out]
      intro i
      rw [HZ.out]; exact hg0.out i
  · have HX := hid hx
    have HZ := hid hz
    clear hx hz
    go_enter Try.func17, Try.ntmps17
    go_wp2_with fail
    go_loop [5, 6, 14] (fun _ _ i => ∃ k : Nat, k ≤ xs.length ∧ i = .int .i64 k ∧ ∀ j, j < k → f j ≤ g j) (fun _ _ i => xs.length - (intOf i).toNat)
    case atStart => exact ⟨0, Nat.zero_le _, rfl, fun j hj => by omega⟩
    case round =>
      obtain ⟨k, hk, rfl, hall⟩ := hrel
      have HA := hid hall
      clear hall
      by_cases hlt : k < xs.length
      · obtain ⟨cx, hf'⟩ := HX.out k hlt
        have hf := hid hf'
        have hcg := hid (cg_nn (f := g) (t := (k : Int)) (by omega))
        clear hf'
        by_cases hle : xs[k] ≤ cg g (k : Int)
        · go_wp2_with (go_at_call 13; refine (hG _).mono ?_; rintro e w' ⟨rfl, rfl⟩)
          go_round
          case rel =>
            refine ⟨k + 1, by omega, by go_num, ?_⟩
            intro j hj
            by_cases e : j = k
            · subst e; rw [hf.out]; have := hcg.out; simp at this; omega
            · exact HA.out j (by omega)
          case measure => simp [intOf]; omega
        · go_wp2_with (go_at_call 13; refine (hG _).mono ?_; rintro e w' ⟨rfl, rfl⟩)
          go_ret
          refine ⟨ret_bool ?_, rfl⟩
          have hn : ¬ cwi f g = true := by
            rw [hI.out]
            intro hh
            have := hh k; rw [hf.out] at this; have := hcg.out; simp at this; omega
          simpa using hn
      · go_wp2_with fail
        go_ret
        refine ⟨ret_bool ?_, rfl⟩
        symm; rw [hI.out]
        intro i
        by_cases hi : i < k
        · exact HA.out i hi
        · rw [HZ.out i (by omega)]; exact hg0.out i

theorem Try.size3 : (Try.prog.info? 3).map (·.size) = some 1 := by kernel_rfl
theorem Try.info3 : (Try.prog.info? 3).map (fun i => (i.zero, i.size, i.bytes)) = some (some (.int .i64 0), 1, 8) := by kernel_rfl

/-- what 'own' leaves -/
def OwnPost (w : World) (M : Nat → Option (Nat → Int)) (F : Nat → Prop) (p : Nat) (f : Nat → Int) (n l : Nat) (e : Ending) (w' : World) : Prop :=
  e = .returned (.tuple #[]) ∧ ∃ b xs cap, ClkAt w' p f false (some b) xs cap ∧ n ≤ xs.length ∧ l ≤ xs.length ∧ Clks w' M (Gr F w w') ∧ Fr F w w' ∧ Fr (fun b => b = p) w w'

theorem own_end {w w1 w2 : World} {M F p f sh bk xs cap} (hC : Clks w M F) (hM : M p = some f) (hp : ClkAt w p f sh bk xs cap) {N n : Nat} (h1 : n ≤ N) (h2 : N ≤ 256) (h3 : xs.length ≤ N)
    (hb : Below w.heap.size w w1) (hs1 : w1.heap.size = w.heap.size + 1) {cur : List Value} (hc : cur = (xs.map (Value.int .i64)) ++ (Array.replicate N (Value.int .i64 0)).toList.drop xs.length)
    (g2 : w2.heap[w.heap.size]? = some (.cells cur.toArray 3 (0, 0))) (ho : Only w.heap.size w1 w2) :
    OwnPost w M F p f n xs.length (.returned (.tuple #[])) ((w2.setCell ⟨p, 0, none⟩ (.slice (some ⟨w.heap.size, 0, none⟩) N N)).setCell ⟨p, 1, none⟩ (.bool false)) := by
  have hb2 : Below w.heap.size w w2 := ⟨ho.os.trans hb.os, ho.tape.trans hb.tape, ho.output.trans hb.output, by rw [ho.size]; exact hb.size, fun k hk => (ho.block k (by omega)).trans (hb.block k hk)⟩
  obtain ⟨r1, r2, r3⟩ := hC.ownNew hM hp hb2 (Nat.le_refl _) g2 h3 h2 (by
    intro i hi
    subst hc
    simp only [List.getElem?_toArray, List.getElem?_append, List.length_map, List.getElem?_map, List.getElem?_drop, Array.toList_replicate, List.getElem?_replicate]
    split
    · rename_i hlt
      rw [List.getElem?_eq_getElem hlt, List.getD_eq_getElem?_getD, List.getElem?_eq_getElem hlt]; rfl
    · rename_i hlt
      rw [if_pos (by omega), List.getD_eq_getElem?_getD, List.getElem?_eq_none (by omega)]; rfl)
  refine ⟨rfl, _, _, _, r2, by simpa using h1, by simpa using h3, ?_, r3, (((Fr.ofBelow hb2 (fun b => b = p)).setCell (.inl rfl) _).setCell (.inl rfl) _)⟩
  have e : Gr F w w2 = Gr F w ((w2.setCell ⟨p, 0, none⟩ (.slice (some ⟨w.heap.size, 0, none⟩) N N)).setCell ⟨p, 1, none⟩ (.bool false)) := by funext x; simp [Gr]
  rw [← e]; exact r1

set_option maxRecDepth 100000 in
set_option maxHeartbeats 400000 in
theorem own_x {w : World} {M F p f sh bk xs cap} (hC : Clks w M F) (hM : M p = some f) (h : ClkAt w p f sh bk xs cap) {n : Nat} (h1 : 1 ≤ n) (h2 : n ≤ 256) :
    Calls Try.prog 48 #[ptr p, .int .i64 n] w (OwnPost w M F p f n xs.length) := by
  obtain ⟨i3, hi, hz0, hz1, hz2⟩ := info_parts Try.info3
  have hlen := h.len
  obtain ⟨sp, c0, hsrc⟩ := h.src
  have c1 := h.c1
  have fz := h.fz
  have HX := hid hsrc
  have HH := hid h
  have hpw : p < w.heap.size := heap_lt h.hd
  clear hsrc
  by_cases hs : sh = false ∧ n ≤ xs.length
  · obtain ⟨rfl, hle⟩ := hs
    cases bk with
    | none => have := (h.nl rfl).1; subst this; simp at hle; omega
    | some b =>
      clear h
      go_enter Try.func48, Try.ntmps48
      go_wp2_with fail
      go_end0
      exact ⟨rfl, b, xs, cap, HH.out, hle, Nat.le_refl _, by rw [Gr.self]; exact hC, Fr.refl _ _, Fr.refl _ _⟩
  · have hs' : sh = true ∨ (sh = false ∧ xs.length < n) := by
      cases sh
      · exact .inr ⟨rfl, by have : ¬ n ≤ xs.length := fun h => hs ⟨rfl, h⟩; omega⟩
      · exact .inl rfl
    clear hs h
    obtain ⟨N, hN, hN1, hN2, hN3⟩ : ∃ N : Nat, (if n < xs.length then (xs.length : Int) else (n : Int)) = (N : Int) ∧ n ≤ N ∧ N ≤ 256 ∧ xs.length ≤ N := by
      by_cases hlt : n < xs.length
      · exact ⟨xs.length, by rw [if_pos hlt], by omega, by omega, by omega⟩
      · exact ⟨n, by rw [if_neg hlt], by omega, by omega, by omega⟩
    obtain ⟨N', hN', HE⟩ : ∃ N' : Int, (if n < xs.length then (xs.length : Int) else (n : Int)) = N' ∧ Hid (N' = (N : Int)) := ⟨_, rfl, hN⟩
    have HN := hid hN
    clear hN hN'
    rcases hs' with rfl | ⟨rfl, hlt⟩
    all_goals
      go_enter Try.func48, Try.ntmps48
      go_upto_region 2 with (at_make; go_must (refine wpList_make1 _ rfl _ _ 38 rfl 3 i3 (.int .i64 0) Try.underlying38 hi hz0 hz1 rfl .i64 .i64 _ _ N rfl rfl (by first | exact HN.out | (have := HN.out; rw [if_neg (by omega)] at this; exact this)) (by first | exact HN.out | (have := HN.out; rw [if_neg (by omega)] at this; exact this)) (by rw [hz2]; omega) (by omega) ?_); intro w1 g1 s1 b1)
      have c0' := (cell_same (b1.block p hpw) 0).trans c0
      have G1 := hid g1
      clear g1
      have L : Hid (∀ {ops rest o a Q}, o.guard = none → o.op = .call { callee := .builtin .copy, args := #[.tmp 26, .tmp 30], argTypes := #[38, 38] } →
          a.eval (.tmp 26) = .slice (some ⟨w.heap.size, 0, none⟩) N N → a.eval (.tmp 30) = .slice sp xs.length cap →
          (∀ w2, Hid (w2.heap[w.heap.size]? = some (.cells (xs.map (Value.int .i64) ++ (Array.replicate N (Value.int .i64 0)).toList.drop xs.length).toArray 3 (0, 0)) ∧ Only w.heap.size w1 w2) →
            w2.cell? ⟨p, 0, none⟩ = some (.slice sp xs.length cap) → w2.cell? ⟨p, 1, none⟩ = w.cell? ⟨p, 1, none⟩ → w2.frozen? ⟨p, 0, none⟩ = false → w2.frozen? ⟨p, 1, none⟩ = false →
            wpList Try.prog ops Q rest (a.put o.dst (goInt xs.length)) w2) → wpList Try.prog ops Q (o :: rest) a w1) := by
        intro ops rest o a Q hg ho hd hs hK
        refine wpList_copy_ints w1 hg _ _ 38 ho 3 Try.underlying38 Try.size3 w.heap.size N N cap sp xs .i64 hd hs _ _ G1.out hN3 (by simpa using hN3) (fun i hi => ?_) ?_
        · obtain ⟨b, off, e, hb, hc⟩ := HX.out i hi
          exact ⟨b, off, e, by rw [cell_same (b1.block b hb)]; exact hc⟩
        · intro w2 g2 o2
          exact hK w2 ⟨g2, o2⟩ ((o2.cell (by omega)).trans c0') ((o2.cell (by omega)).trans (cell_same (b1.block p hpw) 1)) (((o2.frozen (by omega)).trans (frozen_same (b1.block p hpw) 0)).trans (fz 0)) (((o2.frozen (by omega)).trans (frozen_same (b1.block p hpw) 1)).trans (fz 1))
      go_wp2_with (refine L.out (o := ⟨some 31, _, _, _, _, _⟩) rfl rfl rfl rfl ?_; intro w2 hg2 c0'' c1'' f1 f2; rw [c1] at c1'')
      all_goals
        go_end0
        exact own_end hC hM HH.out hN1 hN2 hN3 b1 s1 rfl hg2.out.1 hg2.out.2

/-- 'own', of whatever clock -/
theorem own_any {w : World} {M F p f} (hC : Clks w M F) (hM : M p = some f) {n : Nat} (h1 : 1 ≤ n) (h2 : n ≤ 256) :
    Calls Try.prog 48 #[ptr p, .int .i64 n] w (OwnPost w M F p f n 0) := by
  obtain ⟨_, sh, bk, xs, cap, h, _⟩ := hC.at_ p f hM
  exact (own_x hC hM h h1 h2).mono fun e w' ⟨a, b, x, c, d1, d2, _, d4⟩ => ⟨a, b, x, c, d1, d2, Nat.zero_le _, d4⟩

end Go.Proofs.Ytepdifajieegeaa
