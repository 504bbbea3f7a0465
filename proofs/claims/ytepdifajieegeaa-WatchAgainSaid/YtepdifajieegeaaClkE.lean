/- Clocks: List, Of, Epoch. -/
import Derived.Test.YtepdifajieegeaaClkD
namespace Go.Proofs.Ytepdifajieegeaa
open Go.RowKit

/-- how many of the first n numbers stay, if trailing noughts go -/
def clnB (f : Nat → Int) : Nat → Nat
  | 0 => 0
  | n + 1 => if f n = 0 then clnB f n else n + 1
theorem clnB_le (f : Nat → Int) : ∀ n, clnB f n ≤ n
  | 0 => Nat.le_refl _
  | n + 1 => by unfold clnB; split; have := clnB_le f n; omega; exact Nat.le_refl _
theorem clnB_pad (f : Nat → Int) (n : Nat) (h : ∀ i, n ≤ i → f i = 0) : ∀ d, clnB f (n + d) = clnB f n
  | 0 => rfl
  | d + 1 => by show clnB f ((n + d) + 1) = _; rw [clnB, if_pos (h _ (by omega)), clnB_pad f n h d]
/-- a clock's list -/
def clst (f : Nat → Int) : List Int := (List.range (clnB f 256)).map f
theorem clnB_stop {f : Nat → Int} {n : Nat} (h : n = 0 ∨ f (n - 1) ≠ 0) : clnB f n = n := by
  cases n with
  | zero => rfl
  | succ n => rcases h with h | h; cases h; simp at h; rw [clnB, if_neg h]

def ListPost (w : World) (l : List Int) (e : Ending) (w' : World) : Prop :=
  ∃ v, e = .returned v ∧ IntsR w' v l (fun b => w.heap.size ≤ b) ∧ Fr (fun _ => False) w w'

theorem Try.info3' : ∃ i, Try.prog.info? 3 = some i ∧ i.zero = some (.int .i64 0) ∧ i.size = 1 ∧ i.bytes = 8 := info_parts Try.info3

set_option maxRecDepth 100000 in
set_option maxHeartbeats 400000 in
theorem list_any {w : World} {M F p f} (hC : Clks w M F) (hM : M p = some f) : Calls Try.prog 16 #[ptr p] w (ListPost w (clst f)) := by
  obtain ⟨i3, hi, hz0, hz1, hz2⟩ := Try.info3'
  obtain ⟨_, sh, bk, xs, cap, h, _⟩ := hC.at_ p f hM
  have H := hid h
  have hlen := h.len
  have hle := h.cle
  obtain ⟨sp, c0, hsrc⟩ := h.src
  have HS := hid hsrc
  have hpw : p < w.heap.size := heap_lt h.hd
  have hcap : Hid (sp = none → cap = 0) := by
    intro e
    subst e
    cases bk with
    | none => exact (h.nl rfl).2
    | some b => have := h.c0b; rw [c0] at this; cases this
  have hend : Hid (∀ k, k ≤ xs.length → clnB f k = clnB f xs.length → clnB f k = k → clst f = xs.take k) := by
    intro k hk h1 h2
    have h3 : clnB f 256 = k := by
      have := clnB_pad f xs.length (fun i hi => h.out hi) (256 - xs.length)
      rw [show xs.length + (256 - xs.length) = 256 by omega] at this
      rw [this, ← h1, h2]
    unfold clst
    rw [h3]
    refine List.ext_getElem (by simp; omega) fun i h1 h2 => ?_
    have : i < xs.length := by simp at h1; omega
    simp [h.inn this]
  have L : Hid (∀ k, k ≤ xs.length → clnB f k = clnB f xs.length → clnB f k = k → ∀ {ops rest o a Q}, o.guard = none → o.op = .call { callee := .builtin .append, args := #[.tmp 26, .tmp 32], argTypes := #[38, 38] } →
      a.eval (.tmp 26) = .slice (some ⟨w.heap.size, 0, none⟩) 0 0 → a.eval (.tmp 32) = .slice sp k cap →
      (∀ v' w2, Hid (ListPost w (clst f) (.returned v') w2) → wpList Try.prog ops Q rest (a.put o.dst v') w2) → wpList Try.prog ops Q (o :: rest) a (w.alloc (.cells #[] 3))) := by
    intro k hk hc1 hc2 ops rest o a Q h1 h2 h3 h4 h5
    have hkl : (xs.take k).length = k := by simp; omega
    refine wpList_append_clone w h1 _ _ _ h2 3 i3 .i64 8 Try.underlying38 hi hz0 hz1 hz2 h3 _ k cap (xs.take k) hkl h4 hcap.out ?_ (by omega) (Nat.le_refl _) ?_
    · intro j hj
      obtain ⟨b', off', e1, _, e3⟩ := HS.out j (by omega)
      exact ⟨b', off', e1, by simpa using e3⟩
    · intro v' w2 g1 g2
      have hl := hend.out k hk hc1 hc2
      exact h5 v' w2 ⟨v', rfl, by rw [hl]; exact IntsR.ofRow g1, g2⟩
  clear hsrc h
  go_enter Try.func16, Try.ntmps16
  go_wp2_with fail
  go_loop [3] (fun i => ∃ k : Nat, k ≤ xs.length ∧ i = .int .i64 k ∧ clnB f k = clnB f xs.length) (fun i => (intOf i).toNat)
  case atStart => exact ⟨_, Nat.le_refl _, rfl, rfl⟩
  case round =>
    obtain ⟨k, hk, rfl, hcl⟩ := hrel
    have HC := hid hcl
    clear hcl
    by_cases hp : 0 < k
    · obtain ⟨b, off, rfl, _, hc⟩ := HS.out (k - 1) (by omega)
      have hv : f (k - 1) = xs[k - 1]'(by omega) := H.out.inn (by omega)
      have HV := hid hv
      clear hv
      by_cases hz : xs[k - 1]'(by omega) = 0
      · go_wp2_with fail
        go_round
        case rel =>
          refine ⟨k - 1, by omega, by go_num, ?_⟩
          rw [← HC.out]
          obtain ⟨m, rfl⟩ : ∃ m, k = m + 1 := ⟨k - 1, by omega⟩
          have := HV.out
          simp only [Nat.add_sub_cancel] at this hz ⊢
          rw [clnB, if_pos (by rw [this]; exact hz)]
        case measure => simp [intOf]; omega
      · have hst := hid (clnB_stop (f := f) (n := k) (.inr (by rw [HV.out]; exact hz)))
        go_wp2_with (at_builtin; refine L.out k hk HC.out hst.out rfl rfl rfl rfl ?_; intro v' w2 hw2)
        go_ret
        exact hw2.out
    · obtain rfl : k = 0 := by omega
      have hst := hid (clnB_stop (f := f) (n := 0) (.inl rfl))
      clear hp
      go_wp2_with (at_builtin; refine L.out 0 hk HC.out hst.out rfl rfl rfl rfl ?_; intro v' w2 hw2)
      go_ret
      exact hw2.out

/-- a new clock out of a row of one's own -/
theorem Clks.made {w w1 : World} {M F} (hC : Clks w M F) (hF : Fr (fun _ => False) w w1) {v : Value} {l : List Int} {base : Nat} (hb : w.heap.size ≤ base) (hr : w1.ownsRow base 3 1 v l.length (l.map (Value.int .i64)))
    (hl : l.length ≤ 256) (hrng : ∀ x ∈ l, 0 ≤ x ∧ x ≤ 1048576) :
    Clks (w1.alloc (.cells #[v, .bool false] 69)) (upd M w1.heap.size (some fun i => l.getD i 0)) (Gr F w (w1.alloc (.cells #[v, .bool false] 69))) ∧ Fr F w (w1.alloc (.cells #[v, .bool false] 69)) := by
  have hF' : Fr F w (w1.alloc (.cells #[v, .bool false] 69)) := (hF.mono (fun _ h => h.elim)).alloc _
  have C1 : Clks (w1.alloc (.cells #[v, .bool false] 69)) M (Gr F w (w1.alloc (.cells #[v, .bool false] 69))) :=
    ((hC.frame hF (fun _ _ h => h)).alloc _).gr hC.fin hF'.size
  have hM : M w1.heap.size = none := by
    cases e : M w1.heap.size with
    | none => rfl
    | some g => have := hC.fin _ (hC.at_ _ _ e).1; have := hF.size; omega
  have hnew := heap_alloc_new w1 (.cells #[v, .bool false] 69)
  obtain ⟨h0, h1⟩ := hr
  rcases h1 with ⟨rfl, hn⟩ | ⟨g, cap, cur, rfl, hg, hh, hle, _, hsz, ht⟩
  · obtain rfl : l = [] := List.eq_nil_of_length_eq_zero hn
    have hp : ClkAt (w1.alloc (.cells #[.slice none 0 0, .bool false] 69)) w1.heap.size (fun i => [].getD i 0) false none [] 0 :=
      ⟨hnew, (fun b e => by cases e), (fun _ => ⟨rfl, rfl⟩), (fun _ => rfl), (by simp), (by simp), (by simp)⟩
    refine ⟨C1.new hp (.inr ⟨hF.size, by simp⟩) (fun b e => by cases e) hM (fun q g s b y c _ e => by cases e), hF'⟩
  · have hgl : g < w1.heap.size := heap_lt hh
    have hp : ClkAt (w1.alloc (.cells #[.slice (some ⟨g, 0, none⟩) l.length cap, .bool false] 69)) w1.heap.size (fun i => l.getD i 0) false (some g) l cap := by
      refine ⟨hnew, ?_, (fun e => by cases e), (fun _ => rfl), hl, hle, hrng⟩
      rintro b e; cases e
      refine ⟨cur, by rw [heap_alloc_lt _ _ hgl]; exact hh, fun i hi => ?_⟩
      have : (cur.toList.take (l.length * 1))[i]? = some (.int .i64 l[i]) := by rw [ht]; simp [hi]
      rw [List.getElem?_take, if_pos (by omega)] at this
      simpa using this
    refine ⟨C1.new hp (.inr ⟨hF.size, by simp⟩) (fun b e => by cases e; exact .inr ⟨by omega, by simp; omega⟩) hM ?_, hF'⟩
    intro q g' s b y c hq e hk
    cases e
    obtain ⟨_, s0, b0, y0, c0, k0, hb0⟩ := hC.at_ q g' hq
    have k1 := k0.keep (w' := w1.alloc (.cells #[.slice (some ⟨g, 0, none⟩) l.length cap, .bool false] 69)) ((hF.alloc _).keep q (heap_lt k0.hd) (fun h => h)) (fun b e => (hF.alloc _).keep b (hC.fin b (hb0 b e)) (fun h => h))
    obtain ⟨_, rfl, _⟩ := k1.uniq hk
    have := hC.fin g (hb0 g rfl)
    omega

def OfPost (w : World) (F : Nat → Prop) (M : Nat → Option (Nat → Int)) (l : List Int) (e : Ending) (w' : World) : Prop :=
  ∃ q, e = .returned (.tuple #[ptr q, .int .i64 0]) ∧ w.heap.size ≤ q ∧ q < w'.heap.size ∧ Clks w' (upd M q (some fun i => l.getD i 0)) (Gr F w w') ∧ Fr F w w'

set_option maxRecDepth 100000 in
set_option maxHeartbeats 400000 in
theorem of_ok {w : World} {M F} (hC : Clks w M F) {sp : Option Addr} {cap : Nat} {l : List Int} {B : Nat → Prop} (hI : IntsR w (.slice sp l.length cap) l B) (hl : l.length ≤ 256) (hnil : sp = none → cap = 0) (hr : ∀ x ∈ l, 0 ≤ x ∧ x ≤ 1048576) :
    Calls Try.prog 27 #[.slice sp l.length cap] w (OfPost w F M l) := by
  obtain ⟨i3, hi, hz0, hz1, hz2⟩ := Try.info3'
  obtain ⟨sp', cap', e, hsrc⟩ := hI
  cases e
  have HS := hid hsrc
  have HR := hid hr
  have L : Hid (∀ {ops rest o a Q}, o.guard = none → o.op = .call { callee := .builtin .append, args := #[.tmp 19, .tmp 20], argTypes := #[38, 38] } →
      a.eval (.tmp 19) = .slice (some ⟨w.heap.size, 0, none⟩) 0 0 → a.eval (.tmp 20) = .slice sp l.length cap →
      (∀ v' w2, Hid (w2.ownsRow w.heap.size 3 1 v' l.length (l.map (Value.int .i64)) ∧ Fr (fun _ => False) w w2) → wpList Try.prog ops Q rest (a.put o.dst v') w2) → wpList Try.prog ops Q (o :: rest) a (w.alloc (.cells #[] 3))) := by
    intro ops rest o a Q h1 h2 h3 h4 h5
    refine wpList_append_clone w h1 _ _ _ h2 3 i3 .i64 8 Try.underlying38 hi hz0 hz1 hz2 h3 _ l.length cap l rfl h4 hnil ?_ (by omega) (Nat.le_refl _) ?_
    · intro j hj
      obtain ⟨b', off', e1, _, e3⟩ := hsrc j hj
      exact ⟨b', off', e1, e3⟩
    · intro v' w2 g1 g2
      exact h5 v' w2 ⟨g1, g2⟩
  have HN := hid hnil
  clear hsrc hr hnil
  go_enter Try.func27, Try.ntmps27
  go_wp2_with fail
  go_loop [5, 11] (fun _ i => ∃ k : Nat, k ≤ l.length ∧ i = .int .i64 k) (fun _ i => l.length - (intOf i).toNat)
  case atStart => exact ⟨0, Nat.zero_le _, rfl⟩
  case round =>
    obtain ⟨k, hk, rfl⟩ := hrel
    by_cases hlt : k < l.length
    · obtain ⟨b, off, rfl, _, hc⟩ := HS.out k hlt
      obtain ⟨r1, r2⟩ := HR.out l[k] (List.getElem_mem hlt)
      go_wp2_with (go_at_call 44; go_in)
      go_round
      case rel => exact ⟨k + 1, by omega, by go_num⟩
      case measure => simp [intOf]; omega
    · go_wp2_with (at_builtin; refine L.out rfl rfl rfl rfl ?_; intro v' w2 hw2; obtain ⟨sp', cap', rfl⟩ := owns_shape hw2.out.1)
      obtain ⟨r1, r2⟩ := Clks.made hC hw2.out.2 (Nat.le_refl _) hw2.out.1 hl HR.out
      go_ret2
      exact ⟨_, rfl, hw2.out.2.size, by simp, r1, r2⟩
end Go.Proofs.Ytepdifajieegeaa
