/- The reference's clock: a block of 256 ints. What its methods keep. No condition. -/
import Derived.Test.YtepdifajieegeaaWatK
import Derived.Deep.MidRow
namespace Go.Proofs.Ytepdifajieegeaa
open Go.RowKit

/-- block c holds a clock of the reference's -/
def CB (w : World) (c : Nat) : Prop := ∃ arr : Array Value, w.heap[c]? = some (.cells arr 72 (0, 0)) ∧ arr.size = 256 ∧ ∀ j, j < 256 → ∃ z, arr[j]? = some (.int .i64 z)
/-- the cells of a clock -/
def CL (a : Array Value) : Prop := a.size = 256 ∧ ∀ j, j < 256 → ∃ z, a[j]? = some (.int .i64 z)

theorem CB.cell {w c} (h : CB w c) {j : Nat} (hj : j < 256) : ∃ z, w.cell? ⟨c, j, none⟩ = some (.int .i64 z) := by
  obtain ⟨arr, ha, hs, hx⟩ := h
  obtain ⟨z, hz⟩ := hx j hj
  exact ⟨z, (cell_blk ha j).trans hz⟩
theorem CB.froz {w c} (h : CB w c) (j : Nat) : w.frozen? ⟨c, j, none⟩ = false := by
  obtain ⟨arr, ha, hs, hx⟩ := h
  exact froz_blk ha j
theorem CB.lt {w c} (h : CB w c) : c < w.heap.size := by
  obtain ⟨arr, ha, _⟩ := h; exact heap_lt ha
theorem CB.keep {w w' c} (h : CB w c) (hk : w'.heap[c]? = w.heap[c]?) : CB w' c := by
  obtain ⟨arr, ha, hs, hx⟩ := h; exact ⟨arr, hk.trans ha, hs, hx⟩
theorem CB.drew {w c} (h : CB w c) : CB w.drew c := h
theorem CB.setCell {w c} (h : CB w c) {j : Nat} (hj : j < 256) (z : Int) : CB (w.setCell ⟨c, j, none⟩ (.int .i64 z)) c := by
  obtain ⟨arr, ha, hs, hx⟩ := h
  refine ⟨_, heap_setCell_eq ha _ _, by simpa using hs, fun i hi => ?_⟩
  by_cases e : j = i
  · subst e; exact ⟨z, by simp [hs, hj]⟩
  · obtain ⟨y, hy⟩ := hx i hi
    exact ⟨y, by simpa [Array.getElem?_set, Array.getElem?_setIfInBounds, e] using hy⟩
theorem CB.alloc_new {w : World} {a : Array Value} (h : CL a) : CB (w.alloc (.cells a 72)) w.heap.size :=
  ⟨a, heap_alloc_new _ _, h.1, h.2⟩

set_option maxRecDepth 100000 in
set_option maxHeartbeats 1000000 in
theorem rset_any {w c} (h : CB w c) (t n : Int) : Calls Try.prog 34 #[ptr c, .int .i64 t, .int .i64 n] w fun e w' => (∃ z, e = .returned (.int .i64 z)) ∧ CB w' c ∧ Fr (· = c) w w' := by
  have H := hid h
  by_cases h1 : t < 0
  · clear h; (go_enter Try.func34, Try.ntmps34; go_wp2; go_ret); exact ⟨⟨_, rfl⟩, H.out, Fr.refl _ _⟩
  by_cases h2 : 256 ≤ t
  · clear h; (go_enter Try.func34, Try.ntmps34; go_wp2; go_ret); exact ⟨⟨_, rfl⟩, H.out, Fr.refl _ _⟩
  by_cases h3 : n < 0
  · clear h; (go_enter Try.func34, Try.ntmps34; go_wp2; go_ret); exact ⟨⟨_, rfl⟩, H.out, Fr.refl _ _⟩
  by_cases h4 : 1048576 < n
  · clear h; (go_enter Try.func34, Try.ntmps34; go_wp2; go_ret); exact ⟨⟨_, rfl⟩, H.out, Fr.refl _ _⟩
  obtain ⟨k, rfl⟩ : ∃ k : Nat, t = k := ⟨t.toNat, by omega⟩
  have hk : k < 256 := by omega
  obtain ⟨z, hz⟩ := h.cell hk
  have hf := h.froz k
  clear h
  (go_enter Try.func34, Try.ntmps34; go_wp2; go_ret)
  exact ⟨⟨_, rfl⟩, H.out.setCell hk _, (Fr.refl (fun x => x = c) _).setCell (.inl rfl) _⟩

set_option maxRecDepth 100000 in
set_option maxHeartbeats 1000000 in
theorem rget_any {w c} (h : CB w c) (t : Int) : ∃ z : Int, ∀ w', w'.heap = w.heap → Calls Try.prog 57 #[ptr c, .int .i64 t] w' fun e w'' => e = .returned (.int .i64 z) ∧ w' = w'' := by
  by_cases h1 : t < 0
  · clear h; refine ⟨0, fun w' _ => ?_⟩; (go_enter Try.func57, Try.ntmps57; go_wp2; go_ret); exact ⟨rfl, rfl⟩
  by_cases h2 : 256 ≤ t
  · clear h; refine ⟨0, fun w' _ => ?_⟩; (go_enter Try.func57, Try.ntmps57; go_wp2; go_ret); exact ⟨rfl, rfl⟩
  obtain ⟨k, rfl⟩ : ∃ k : Nat, t = k := ⟨t.toNat, by omega⟩
  have hk : k < 256 := by omega
  obtain ⟨z, hz⟩ := h.cell hk
  clear h
  refine ⟨z, fun w' e => ?_⟩
  rw [← cell_same (w := w) (w' := w') (by rw [e])] at hz
  clear e
  (go_enter Try.func57, Try.ntmps57; go_wp2; go_ret)
  exact ⟨rfl, rfl⟩

set_option maxRecDepth 100000 in
set_option maxHeartbeats 1000000 in
theorem rtick_any {w c} (h : CB w c) (t n : Int) : Calls Try.prog 52 #[ptr c, .int .i64 t, .int .i64 n] w fun e w' => (∃ z, e = .returned (.int .i64 z)) ∧ CB w' c ∧ Fr (· = c) w w' := by
  have H := hid h
  by_cases h1 : t < 0
  · clear h; (go_enter Try.func52, Try.ntmps52; go_wp2; go_ret); exact ⟨⟨_, rfl⟩, H.out, Fr.refl _ _⟩
  by_cases h2 : 256 ≤ t
  · clear h; (go_enter Try.func52, Try.ntmps52; go_wp2; go_ret); exact ⟨⟨_, rfl⟩, H.out, Fr.refl _ _⟩
  by_cases h3 : n < 1
  · clear h; (go_enter Try.func52, Try.ntmps52; go_wp2; go_ret); exact ⟨⟨_, rfl⟩, H.out, Fr.refl _ _⟩
  by_cases h4 : 1048576 < n
  · clear h; (go_enter Try.func52, Try.ntmps52; go_wp2; go_ret); exact ⟨⟨_, rfl⟩, H.out, Fr.refl _ _⟩
  obtain ⟨k, rfl⟩ : ∃ k : Nat, t = k := ⟨t.toNat, by omega⟩
  have hk : k < 256 := by omega
  obtain ⟨z, hz⟩ := h.cell hk
  have hf := h.froz k
  clear h
  by_cases h5 : n ≤ z
  · (go_enter Try.func52, Try.ntmps52; go_wp2; go_ret); exact ⟨⟨_, rfl⟩, H.out, Fr.refl _ _⟩
  go_enter Try.func52, Try.ntmps52
  go_wp2_with fail
  go_region
  go_wp2_with fail
  go_ret
  exact ⟨⟨_, rfl⟩, H.out.setCell hk _, ((Fr.refl (fun x => x = c) _).setCell (.inl rfl) _).drew⟩

/-- what a loop that writes into a clock keeps -/
def JR (w : World) (c : Nat) (a : Array Value) (wr : World) : Prop := CB wr c ∧ CB wr w.heap.size ∧ Fr (fun x => x = c) w wr

set_option maxRecDepth 100000 in
set_option maxHeartbeats 1000000 in
theorem rjoin_any {w c} (h : CB w c) {a : Array Value} (ha : CL a) : Calls Try.prog 50 #[ptr c, .agg a] w fun e w' => (∃ z, e = .returned (.bool z)) ∧ CB w' c ∧ Fr (fun x => x = c) w w' := by
  have hne : c ≠ w.heap.size := by have := h.lt; omega
  have J0 : JR w c a (w.alloc (.cells a 72)) := ⟨h.keep (heap_alloc_lt _ _ h.lt), CB.alloc_new ha, (Fr.refl _ _).alloc _⟩
  have HJ := hid J0
  clear ha h J0
  go_enter Try.func50, Try.ntmps50
  go_wp2_with fail
  go_loopw [5, 6] (fun b i wr => ∃ k : Nat, k ≤ 256 ∧ i = .int .i64 k ∧ (∃ z, b = .bool z) ∧ JR w c a wr) (fun _ i _ => 256 - (intOf i).toNat)
  case atStart => exact ⟨0, by omega, rfl, ⟨_, rfl⟩, HJ.out⟩
  case round =>
    obtain ⟨k, hk, rfl, ⟨z, rfl⟩, hJ⟩ := hrel
    by_cases hlt : k < 256
    · obtain ⟨x, hx⟩ := hJ.1.cell hlt
      obtain ⟨y, hy⟩ := hJ.2.1.cell hlt
      have hf := hJ.1.froz k
      have HK := hid hJ
      clear hJ
      by_cases hxy : x < y
      · go_wp2_with fail
        go_quiet (fail)
        go_wp2_with fail
        go_region
        go_wp2_with fail
        go_roundw
        case rel =>
          refine ⟨k + 1, by omega, by go_num, ⟨_, rfl⟩, ?_⟩
          have J := HK.out
          refine ⟨?_, ?_, ?_⟩
          · exact (J.1.setCell hlt _)
          · exact (J.2.1.keep (heap_setCell_ne _ _ _ (Ne.symm hne)))
          · exact Fr.setCell (J.2.2.drewN _) (.inl rfl) _
        case measure => simp [intOf]; omega
      · go_wp2_with fail
        go_quiet (fail)
        go_wp2_with fail
        go_roundw
        case rel => exact ⟨k + 1, by omega, by go_num, ⟨_, rfl⟩, HK.out.1, HK.out.2.1, HK.out.2.2.drewN _⟩
        case measure => simp [intOf]; omega
    · go_wp2_with fail
      go_ret
      exact ⟨⟨_, rfl⟩, hJ.1, hJ.2.2⟩

end Go.Proofs.Ytepdifajieegeaa
