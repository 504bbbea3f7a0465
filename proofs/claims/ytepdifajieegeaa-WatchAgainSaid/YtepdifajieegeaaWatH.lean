/- The watch: Spawn, where it gives a tid. -/
import Derived.Test.YtepdifajieegeaaWatG
namespace Go.Proofs.Ytepdifajieegeaa
open Go.RowKit

def SpawnPost (w : World) (wp r : Nat) (t m : Int) (cr : Crew) (M : Nat → Option (Nat → Int)) (F : Nat → Prop) (f : Nat → Int) (g : Int) (e : Ending) (w' : World) : Prop :=
  ∃ n q : Nat, e = .returned (.tuple #[.int .i64 n, .int .i64 0]) ∧ IsFree cr n ∧ (n : Int) < t ∧ w.heap.size ≤ q ∧
    WSt w' wp r t m (cr ++ [(g, (n : Int), q)]) (upd M q (some (upd f n 1))) (Gr F w w') ∧ Fr (fun b => b = r ∨ F b) w w'

set_option maxRecDepth 100000 in
set_option maxHeartbeats 1600000 in
theorem spawn_ok {w wp r t m cr M F} (h : WSt w wp r t m cr M F) {p g tid : Int} {c : Nat} {f : Nat → Int} (hp : lk cr p = some (tid, c)) (hM : M c = some f) (hg0 : 0 ≤ g) (hg : lk cr g = none) (ht : (cr.length : Int) < t) :
    Calls Try.prog 9 #[ptr wp, .int .i64 p, .int .i64 g] w (SpawnPost w wp r t m cr M F f g) := by
  have H := hid h
  have hO := of_some h hp
  have hd : decide ((cr.length : Int) < t) = true := decide_eq_true ht
  have hwl : wp < w.heap.size := heap_lt h.hd
  have c2 := h.c2
  clear h
  go_enter Try.func9, Try.ntmps9
  go_upto_region 2 with (go_at_call 28; refine hO.mono ?_; rintro e w1 ⟨rfl, hs⟩; have HS := hid hs; clear hs)
  go_upto_region 9 with (first | (go_at_call 28; refine (of_none ((H.out.sil HS.out).alloc _) hg).mono ?_; rintro e w2 ⟨rfl, hs2⟩; have d1 := (sil_cell hs2 w1.heap.size 1 (by simp)).trans (World.cell?_alloc_at _ _ _ _ rfl); have HS2 := hid ((HS.out.alloc _).trans hs2 (fun _ x => x.elim)); have hs2' := hs2.size; clear hs2) | (go_at_call 25; refine (room_any ((H.out.sil HS2.out).alloc _)).mono ?_; rintro e w3 ⟨rfl, hs3⟩; have d1' := ((sil_cell hs3 w1.heap.size 1 (by simp at hs2' ⊢; omega)).trans (cell_same (heap_alloc_lt _ _ (by simp at hs2'; omega)) 1)).trans d1; have HS3 := hid ((HS2.out.alloc _).trans hs3 (fun _ x => x.elim)); have hs3' := hs3.size; clear hs3))
  simp only [List.getElem?_toArray, List.getElem?_cons_zero, List.getElem?_cons_succ] at d1'
  have hs1 := HS.out.size
  simp only [World.size_alloc] at hs2' hs3'
  have h13 : w1.heap.size < w3.heap.size := by omega
  have hw3 : w.heap.size ≤ w3.heap.size := by omega
  have hn1 : ¬ F w1.heap.size := fun x => by have := H.out.clk.fin _ x; omega
  have hn3 : ¬ F w3.heap.size := fun x => by have := H.out.clk.fin _ x; omega
  clear d1 hO hd hs2' hs3' hs1
  go_cut [12] (fun s12 wx => ∃ k n q F', s12 = ptr k ∧ SpR w wp r t m cr M F f k n q wx F' ∧ IsFree cr n)
  case first =>
    go_region_with (first | (go_at_call 29; refine (free_any (by first | exact (H.out.sil HS3.out).drew | exact ((H.out.sil HS3.out).alloc _).drew)).mono ?_; rintro e w4 ⟨n, rfl, hfree, hnt, hs4⟩; (have d4 : w4.cell? ⟨w1.heap.size, 1, none⟩ = some (ptr c) := (sil_cell hs4 w1.heap.size 1 (by simp; omega)).trans (by first | exact d1' | exact (cell_same (heap_alloc_lt _ _ (by omega)) 1).trans d1')); have hz4 := hs4.size; simp only [World.size_alloc, World.size_drew] at hz4; (have h34 : w3.heap.size ≤ w4.heap.size := by omega); (have h14 : w1.heap.size < w4.heap.size := by omega); (try (have h34' : w3.heap.size < w4.heap.size := by omega)); (try (have e40 := (sil_cell hs4 w3.heap.size 0 (by simp)).trans (World.cell?_alloc_at _ _ _ _ rfl))); (try (have e41 := (sil_cell hs4 w3.heap.size 1 (by simp)).trans (World.cell?_alloc_at _ _ _ _ rfl))); (try (have e42 := (sil_froz hs4 w3.heap.size 0 (by simp)).trans (World.frozen?_alloc_at _ _ _ _ rfl))); (try (have e43 := (sil_froz hs4 w3.heap.size 1 (by simp)).trans (World.frozen?_alloc_at _ _ _ _ rfl))); have HS4 := hid hs4; (have HSw : Hid (Fr (fun _ => False) w w4) := (by first | exact HS3.out.drew.trans hs4 (fun _ x => x.elim) | exact (HS3.out.alloc _).drew.trans hs4 (fun _ x => x.elim))); (have hn4 : ¬ F w4.heap.size := fun x => by have := H.out.clk.fin _ x; omega); clear hs4) | (go_at_call 30; refine (copy_any (F := F) (M := M) (by first | exact (H.out.sil HSw.out).clk | exact ((H.out.sil HSw.out).alloc _).clk) hM).mono ?_; rintro e w5 ⟨q, rfl, hq1, hq2, hC, hF⟩; (try (have e50 := (cell_same (hF.keep w3.heap.size (by first | omega | (simp; omega)) hn3) 0).trans e40)); (try (have e51 := (cell_same (hF.keep w3.heap.size (by first | omega | (simp; omega)) hn3) 1).trans e41)); (try (have e52 := (frozen_same (hF.keep w3.heap.size (by first | omega | (simp; omega)) hn3) 0).trans e42)); (try (have e53 := (frozen_same (hF.keep w3.heap.size (by first | omega | (simp; omega)) hn3) 1).trans e43)); (try (have e54 := (cell_same (hF.keep w4.heap.size (by simp) hn4) 0).trans (World.cell?_alloc_at _ _ _ _ rfl))); (try (have e55 := (cell_same (hF.keep w4.heap.size (by simp) hn4) 1).trans (World.cell?_alloc_at _ _ _ _ rfl))); (try (have e56 := (frozen_same (hF.keep w4.heap.size (by simp) hn4) 0).trans (World.frozen?_alloc_at _ _ _ _ rfl))); (try (have e57 := (frozen_same (hF.keep w4.heap.size (by simp) hn4) 1).trans (World.frozen?_alloc_at _ _ _ _ rfl))); have HC := hid hC; have HF := hid hF; clear hC hF))
    all_goals go_wp2_with fail
    all_goals go_meet
    all_goals first
      | exact ⟨w5.heap.size, n, q, _, rfl, SpR.after H.out HSw.out hq1 HC.out HF.out, hfree⟩
      | exact ⟨w3.heap.size, n, q, _, rfl, SpR.ahead H.out HSw.out hq1 HC.out HF.out ((HS4.out.keep w3.heap.size (by simp) (fun x => x)).trans (heap_alloc_at rfl)) hw3, hfree⟩
      | exact ⟨w4.heap.size, n, q, _, rfl, SpR.ahead H.out (HSw.out.alloc _) hq1 HC.out HF.out (heap_alloc_at rfl) (by omega), hfree⟩
  case rest =>
    obtain ⟨k, n, q, F', rfl, hS, hfree⟩ := hcut
    have hn : (n : Int) < t := hfree.lt ht
    have hn256 : n < 256 := by have := H.out.tb; omega
    have c0 := cell_blk hS.hk 0
    have c1 := cell_blk hS.hk 1
    have c2' := hS.st.c2
    simp only [List.getElem?_toArray, List.getElem?_cons_zero, List.getElem?_cons_succ] at c0 c1
    have HS' := hid hS
    have hkl := heap_lt hS.hk
    have hwx := heap_lt hS.st.hd
    have nk := hid hS.nk
    obtain ⟨es, kk, hm⟩ := hS.st.mp
    have hrx := heap_lt hm.hd
    have HM := hid hm
    clear hS hm h13 hw3 hn1 hn3 d1' c2
    go_upto_region 11 with (go_at_call 31; refine (set_ok HS'.out.st.clk (upd_same _ _ _) (t := n) (n := 1) hn256 (by decide) (by decide)).mono ?_; rintro e w6 ⟨rfl, hC6, hF6⟩)
    have c06 := (cell_same (hF6.keep k hkl nk.out) 0).trans c0
    have c16 := (cell_same (hF6.keep k hkl nk.out) 1).trans c1
    have c26 := (cell_same (hF6.keep wp hwx HS'.out.st.nw) 2).trans c2'
    have hI6 := hid (HM.out.keep (w' := w6.drew) (hF6.keep r hrx HS'.out.st.nr))
    have hkr : k ≠ r := by
      rintro rfl
      have := HS'.out.hk.symm.trans HM.out.hd
      cases this
    have HF6 := hid hF6
    have HC6 := hid hC6
    clear hF6 hC6 c0 c1 c2'
    go_still_tail 6, (by kernel_rfl)
    go_wp2_with (refine wpList_put (o := ⟨none, _, _, _, _, _⟩) _ rfl 61 (.tmp 52) (.tmp 53) (.tmp 54) rfl 3 60 Try.underlying61 Try.underlying3 r (crewL cr) es kk g (oneV n q) rfl rfl rfl hI6.out ?_; intro w7 es' k' hO hI7; have c07 := (hO.cell (i := 0) hkr).trans c06; have HO := hid hO; have HI7 := hid hI7; clear hO hI7)
    go_ret2
    exact ⟨n, q, rfl, hfree, hn, HS'.out.lq, spawn_end H.out HS'.out HC6.out HF6.out HO.out HI7.out hg hfree hn⟩
end Go.Proofs.Ytepdifajieegeaa
