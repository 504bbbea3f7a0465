/- The watch: New. -/
import Derived.Test.YtepdifajieegeaaWatC
namespace Go.Proofs.Ytepdifajieegeaa
open Go.RowKit

def NoM : Nat → Option (Nat → Int) := fun _ => none
theorem clks_none (w : World) : Clks w NoM (fun _ => False) := ⟨(fun p f h => by cases h), (fun p q f g sh sh' b xs ys c c' _ h => by cases h), (fun b h => h.elim)⟩
/-- the first one's numbers -/
def one0 : Nat → Int := fun i => [1].getD i 0

def NewPost (w : World) (t m : Int) (e : Ending) (w' : World) : Prop :=
  ∃ wp r c F, e = .returned (.tuple #[ptr wp, .int .i64 0]) ∧ WSt w' wp r t m [(0, 0, c)] (upd NoM c (some one0)) F ∧ (∀ b, F b → w.heap.size ≤ b) ∧ w.heap.size ≤ wp ∧ w.heap.size ≤ r ∧ Fr (fun _ => False) w w'

theorem new_end {w w2 w4 : World} {c r : Nat} {t m : Int} {es k} (hC : Clks w2 (upd NoM c (some one0)) (Gr (fun _ => False) w w2)) (hF : Fr (fun _ => False) w w2) (hr : r = w2.heap.size) (hO : Only r (w2.alloc (.map #[] 0)) w4)
    (hI : IMap w4 r (put [] 0 (oneV 0 c)) es k) (ht : 1 ≤ t ∧ t ≤ 256) (hm : 1 ≤ m ∧ m ≤ 1048576) :
    NewPost w t m (.returned (.tuple #[ptr w4.heap.size, .int .i64 0])) (w4.alloc (.cells #[.int .i64 t, .int .i64 m, .map (some r)] 63)) := by
  have hs := hF.size
  have hs4 : w4.heap.size = w2.heap.size + 1 := by rw [hO.size]; simp
  have h4 : Fr (fun _ => False) w w4 := hO.fr (hF.alloc _) (.inr (by omega))
  have hk : ∀ b, b < w2.heap.size → (w4.alloc (.cells #[.int .i64 t, .int .i64 m, .map (some r)] 63)).heap[b]? = w2.heap[b]? := by
    intro b hb
    rw [heap_alloc_lt _ _ (by omega), hO.block b (by omega), heap_alloc_lt _ _ hb]
  refine ⟨w4.heap.size, r, c, Gr (fun _ => False) w w2, rfl, ⟨hC.keep (fun b hb => hk b (hC.fin b hb)) (by simp; omega), heap_alloc_at rfl, ⟨es, k, hI.keep (heap_alloc_lt _ _ (heap_lt hI.hd))⟩, ?_, ?_, by simp, by simp, by simp, ?_, ?_, ht, hm⟩, ?_, by omega, by omega, h4.alloc _⟩
  · rintro (g | g); exact g; omega
  · rintro (g | g); exact g; omega
  · intro x hx; simp at hx; subst hx; simp; omega
  · intro x hx; simp at hx; subst hx; exact ⟨_, upd_same _ _ _⟩
  · rintro b (g | g); exact g.elim; exact g.1

set_option maxRecDepth 100000 in
set_option maxHeartbeats 400000 in
theorem new_ok (w : World) {t m : Int} (ht : 1 ≤ t ∧ t ≤ 256) (hm : 1 ≤ m ∧ m ≤ 1048576) : Calls Try.prog 7 #[.int .i64 t, .int .i64 m] w (NewPost w t m) := by
  obtain ⟨t1, t2⟩ := ht
  obtain ⟨m1, m2⟩ := hm
  have hmm := @run_makeMap Try.prog
  have hI0 : IntsR (w.alloc (.cells #[.int .i64 1] 3)) (.slice (some ⟨w.heap.size, 0, none⟩) [(1 : Int)].length 1) [1] (fun _ => True) :=
    ⟨_, _, rfl, fun i hi => ⟨w.heap.size, 0, rfl, trivial, by
      have : i = 0 := by simpa using hi
      subst this; simp⟩⟩
  have HO := hid (of_ok ((clks_none w).alloc (.cells #[.int .i64 1] 3)) hI0 (by decide) (fun e => by cases e) (by simp))
  clear hI0
  go_enter Try.func7, Try.ntmps7
  go_wp2_with (first | (go_at_call 27; refine HO.out.mono ?_; rintro e w2 ⟨q, rfl, hq1, hq2, hC, hF⟩; have HC := hid hC; have HF := hid hF; clear hC hF HO) | (refine wpList_insert (o := ⟨none, _, _, _, _, _⟩) _ rfl 61 (.tmp 29) (.const (.int .i64 0)) (.tmp 31) rfl 3 60 Try.underlying61 Try.underlying3 w2.heap.size [] #[] 0 0 (oneV 0 q) rfl rfl rfl (imap_made w2) ?_; intro w4 es k hO hI; have HO4 := hid hO; have HI4 := hid hI; clear hO hI))
  go_ret2
  have hs := HF.out.size
  simp only [World.size_alloc] at hs
  have hC2 : Clks w2 (upd NoM q (some one0)) (Gr (fun _ => False) w w2) := HC.out.grow (by
    rintro b (g | g)
    · exact g.elim
    · simp only [World.size_alloc] at g; exact .inr (by omega)) (by
    rintro b (g | g)
    · exact g.elim
    · exact g.2)
  exact new_end hC2 (((Fr.refl _ _).alloc _).trans HF.out (fun _ x => x.elim)) rfl HO4.out HI4.out ⟨t1, t2⟩ ⟨m1, m2⟩

set_option maxRecDepth 100000 in
set_option maxHeartbeats 400000 in
theorem new_bad (w : World) {t m : Int} (h : t < 1 ∨ 256 < t ∨ m < 1 ∨ 1048576 < m) : Calls Try.prog 7 #[.int .i64 t, .int .i64 m] w fun e w' => e = .returned (.tuple #[.pointer none, .int .i64 1]) ∧ w = w' := by
  by_cases h1 : t < 1
  · go_enter Try.func7, Try.ntmps7
    go_wp2_with fail
    go_ret2
    exact ⟨rfl, rfl⟩
  · by_cases h2 : 256 < t
    · go_enter Try.func7, Try.ntmps7
      go_wp2_with fail
      go_ret2
      exact ⟨rfl, rfl⟩
    · by_cases h3 : m < 1
      · go_enter Try.func7, Try.ntmps7
        go_wp2_with fail
        go_ret2
        exact ⟨rfl, rfl⟩
      · have h4 : 1048576 < m := by omega
        go_enter Try.func7, Try.ntmps7
        go_wp2_with fail
        go_ret2
        exact ⟨rfl, rfl⟩
end Go.Proofs.Ytepdifajieegeaa
