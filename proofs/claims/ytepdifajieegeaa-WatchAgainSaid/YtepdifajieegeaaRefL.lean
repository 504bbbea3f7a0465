/- The reference's watch: New. No condition. -/
import Derived.Test.YtepdifajieegeaaRefK
namespace Go.Proofs.Ytepdifajieegeaa
open Go.RowKit

set_option maxRecDepth 100000 in
theorem one_first {C : Array Value} (hC : CL C) : ∃ E, OneV E 0 0 ∧ Try.prog.built 75 [(2, .agg C)] = some E := by
  rw [Try.offs]
  obtain ⟨r3, e3, s3, k3⟩ := fill_step (place := (#[(0, 1), (1, 1), (2, 256)][·]?)) (cells := Array.replicate 258 (Value.int .i64 0)) (i := 2) (v := .agg C) (rest := []) (off := 2) (size := 256) rfl hC.1 (by simp)
  refine ⟨r3, ⟨by rw [s3]; simp, ?_, ?_, ?_⟩, ?_⟩
  · rw [k3, if_neg (by omega)]; simp
  · rw [k3, if_neg (by omega)]; simp
  · intro j hj
    rw [k3]
    by_cases h2 : 2 ≤ j
    · rw [if_pos (by omega)]; exact hC.2 (j - 2) (by omega)
    · rw [if_neg (by omega)]; exact ⟨0, by simp [hj]⟩
  · show Instr.fill _ _ _ = _
    rw [e3]; rfl

theorem zero72' : ∃ Z, (∀ w, (zeroValue 72).run Try.prog w = .ok (.agg Z) w) ∧ CL Z ∧ (Try.prog.info? 72).map (·.size) = some 256 ∧ Try.prog.built 72 [] = some Z := by
  have h1 : (Try.prog.info? 72).map (fun i => (i.zero, i.size)) = some (some (.agg (Array.replicate 256 (.int .i64 0))), 256) := by kernel_rfl
  have h2 : Try.prog.built 72 [] = some (Array.replicate 256 (.int .i64 0)) := by kernel_rfl
  obtain ⟨h3, h4⟩ := zero_of_info h1
  exact ⟨_, h3, ⟨by simp, fun j hj => ⟨0, by simp [hj]⟩⟩, h4, h2⟩

def RNewP (w : World) (t m : Int) (e : Ending) (w' : World) : Prop :=
  ∃ xp, e = .returned (.tuple #[ptr xp, .int .i64 0]) ∧ RSt w' xp t m [(0, 0)] (fun b => w.heap.size ≤ b) ∧ Fr (fun _ => False) w w'

theorem rnew_bad (w : World) {t m : Int} (h : t < 1 ∨ 256 < t ∨ m < 1 ∨ 1048576 < m) : Calls Try.prog 18 #[.int .i64 t, .int .i64 m] w fun e w' => e = .returned (.tuple #[.pointer none, .int .i64 1]) ∧ w = w' := by
  by_cases h1 : t < 1
  · go_enter Try.func18, Try.ntmps18
    go_wp2_with fail
    go_ret2
    exact ⟨rfl, rfl⟩
  by_cases h2 : 256 < t
  · go_enter Try.func18, Try.ntmps18
    go_wp2_with fail
    go_ret2
    exact ⟨rfl, rfl⟩
  by_cases h3 : m < 1
  · go_enter Try.func18, Try.ntmps18
    go_wp2_with fail
    go_ret2
    exact ⟨rfl, rfl⟩
  have h4 : 1048576 < m := by omega
  clear h
  go_enter Try.func18, Try.ntmps18
  go_wp2_with fail
  go_ret2
  exact ⟨rfl, rfl⟩

theorem rnew_end {w w1 : World} {t m : Int} {E : Array Value} (hF : Fr (fun _ => False) w w1) (hE : OneV E 0 0) :
    RNewP w t m (.returned (.tuple #[ptr (w1.heap.size + 1), .int .i64 0])) ((w1.alloc (.cells E 75)).alloc (.cells #[.int .i64 t, .int .i64 m, .slice (some ⟨w1.heap.size, 0, none⟩) 1 1] 78)) := by
  have hs := hF.size
  refine ⟨_, rfl, ⟨⟨_, E.toList, heap_alloc_at (by simp), ⟨by simp [hE.size], .inr ⟨w1.heap.size, 1, E, rfl, Nat.zero_le _, ?_, Nat.le_refl _, by unfold maxLen; omega, by simp [hE.size], by simp; exact List.take_of_length_le (by simp [hE.size])⟩⟩, ?_, ?_⟩, by show _ ≤ _; omega, by simp⟩, (hF.alloc _).alloc _⟩
  · rw [heap_alloc_lt _ _ (by simp)]; exact heap_alloc_new _ _
  · have := Ones.snoc (xs := []) (L := []) ⟨by simp, fun i hi => by simp at hi⟩ hE
    simpa using this
  · intro b e
    cases e
    exact ⟨hs, by show w1.heap.size ≠ _; omega⟩

set_option maxRecDepth 100000 in
set_option maxHeartbeats 2000000 in
theorem rnew_ok (w : World) {t m : Int} (ht : 1 ≤ t ∧ t ≤ 256) (hm : 1 ≤ m ∧ m ≤ 1048576) : Calls Try.prog 18 #[.int .i64 t, .int .i64 m] w (RNewP w t m) := by
  obtain ⟨t1, t2⟩ := ht
  obtain ⟨m1, m2⟩ := hm
  obtain ⟨Z, hz, hzs, hi, hb⟩ := zero72'
  have hlt : w.heap.size < w.heap.size + 1 := by omega
  go_enter Try.func18, Try.ntmps18
  go_upto_region 4 with (first
    | (refine wpList_build' (o := ⟨some 21, _, _, _, _, _⟩) rfl _ _ rfl Z hb ?_)
    | (refine wpList_store_new' (o := ⟨none, _, _, _, _, _⟩) rfl 72 _ _ rfl w Z Z rfl rfl (by rw [hzs.1]; exact hi) rfl hzs.one ?_; intro w2 e2))
  have HC := hid (show CB w2 w.heap.size by rw [e2.out]; exact CB.alloc_new hzs)
  have HS := hid (show Fr (fun _ => False) w w2 by rw [e2.out]; exact (Fr.refl _ _).alloc _)
  clear e2
  have cS := rset_any HC.out 0 1
  go_upto_region 5 with (go_at_call 34; refine cS.mono ?_; rintro e w4 ⟨⟨zz, rfl⟩, hC4, hF4⟩)
  obtain ⟨arr, hb4, hc4⟩ := hC4
  have hA4 : CL arr := hc4
  have HF := hid (show Fr (fun _ => False) w w4 from HS.out.trans hF4 (fun b e hb => by omega))
  obtain ⟨V, hV, hbd⟩ := one_first hA4
  have HV := hid hV
  have HBD := hid hbd
  have hi4 : (Try.prog.info? 72).map (·.size) = some arr.size := by rw [hA4.1]; exact hi
  obtain ⟨i75, e75, z75, s75, b75⟩ := info75
  clear hc4 hA4 hF4 hV hbd cS HC HS hb hz hzs
  go_wp2_with (first
    | (refine wpList_load_row (o := ⟨some 25, _, _, _, _, _⟩) rfl 72 _ rfl w.heap.size rfl _ arr (0, 0) _ hb4 Try.underlying72 rfl hi4 ?_)
    | (refine wpList_build' (o := ⟨some 26, _, _, _, _, _⟩) rfl _ _ rfl V HBD.out ?_)
    | (refine wpList_buildSlice' (o := ⟨some 27, _, _, _, _, _⟩) rfl _ _ 1 _ rfl V i75 _ Try.underlying76 e75 z75 (by rw [s75]; omega) (by rw [s75]; omega) (one_fill HV.out.size s75) ?_))
  go_ret2
  exact rnew_end HF.out HV.out
end Go.Proofs.Ytepdifajieegeaa
