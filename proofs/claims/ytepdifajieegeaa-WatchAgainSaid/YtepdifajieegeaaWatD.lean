/- The watch: Know, Tell. -/
import Derived.Test.YtepdifajieegeaaWatC
namespace Go.Proofs.Ytepdifajieegeaa
open Go.RowKit

def WPost (w : World) (wp r : Nat) (t m : Int) (cr : Crew) (M' : Nat → Option (Nat → Int)) (F : Nat → Prop) (v : Value) (e : Ending) (w' : World) : Prop :=
  e = .returned v ∧ WSt w' wp r t m cr M' (Gr F w w') ∧ Fr F w w'

theorem WSt.upd_cls {w wp r t m cr M F} (h : WSt w wp r t m cr M F) (c : Nat) (f : Nat → Int) : ∀ x ∈ cr, ∃ f', upd M c (some f) x.2.2 = some f' := by
  intro x hx
  by_cases e : x.2.2 = c
  · rw [e, upd_same]; exact ⟨_, rfl⟩
  · rw [upd_ne _ _ e]; exact h.cls x hx

set_option maxRecDepth 100000 in
set_option maxHeartbeats 400000 in
theorem know_some {w wp r t m cr M F} (h : WSt w wp r t m cr M F) {g tid : Int} {c q : Nat} {f fq : Nat → Int} (hl : lk cr g = some (tid, c)) (hM : M c = some f) (hq : M q = some fq) :
    Calls Try.prog 14 #[ptr wp, .int .i64 g, ptr q] w (WPost w wp r t m cr (upd M c (some (mxf f fq))) F (.int .i64 0)) := by
  have hO := of_some h hl
  have H := hid h
  clear h
  go_enter Try.func14, Try.ntmps14
  go_wp2_with (first | (go_at_call 28; refine hO.mono ?_; rintro e w1 ⟨rfl, hs⟩; have HS := hid hs; clear hs) | (go_at_call 33; refine (join_any ((H.out.sil HS.out).alloc _).clk hM hq).mono ?_; rintro e w2 ⟨⟨b, rfl⟩, hC, hF⟩))
  go_ret
  exact ⟨rfl, H.out.clocks' (HS.out.alloc _) hC hF (H.out.upd_cls _ _)⟩

set_option maxRecDepth 100000 in
set_option maxHeartbeats 400000 in
theorem tell_full {w wp r t m cr M F} (h : WSt w wp r t m cr M F) {g tid : Int} {c : Nat} {f : Nat → Int} (hl : lk cr g = some (tid, c)) (hM : M c = some f) (hm : m ≤ cg f tid) :
    Calls Try.prog 12 #[ptr wp, .int .i64 g] w (SilRet w (.tuple #[.pointer none, .int .i64 5])) := by
  have hO := of_some h hl
  have H := hid h
  have hd : decide (cg f tid < m) = false := decide_eq_false (by omega)
  clear h
  go_enter Try.func12, Try.ntmps12
  go_wp2_with (first | (go_at_call 28; refine hO.mono ?_; rintro e w1 ⟨rfl, hs⟩; have HS := hid hs; clear hs) | (go_at_call 11; refine (can_some ((H.out.sil HS.out).alloc _) hl hM).mono ?_; rintro e w2 ⟨rfl, hs2⟩; have HS2 := hid hs2; clear hs2))
  go_ret2
  exact ⟨rfl, (HS.out.alloc _).trans HS2.out (fun _ x => x.elim)⟩

def TellPost (w : World) (wp r : Nat) (t m : Int) (cr : Crew) (M : Nat → Option (Nat → Int)) (F : Nat → Prop) (c : Nat) (f : Nat → Int) (tid : Nat) (e : Ending) (w' : World) : Prop :=
  ∃ q, e = .returned (.tuple #[ptr q, .int .i64 0]) ∧ w.heap.size ≤ q ∧ WSt w' wp r t m cr (upd (upd M q (some f)) c (some (upd f tid (f tid + 1)))) (Gr F w w') ∧ Fr F w w'

theorem tell_end {w w3 w4 : World} {wp r t m cr M F c q f tid} (hq : w.heap.size ≤ q) (h3 : WSt w3 wp r t m cr (upd M q (some f)) (Gr F w w3) ∧ Fr F w w3)
    (hC4 : Clks w4 (upd (upd M q (some f)) c (some (upd f tid (f tid + 1)))) (Gr (Gr F w w3) w3.drew w4)) (hF4 : Fr (Gr F w w3) w3.drew w4) :
    TellPost w wp r t m cr M F c f tid (.returned (.tuple #[ptr q, .int .i64 0])) w4 := by
  have h4 := (h3.1.drew).clocks hC4 hF4 (h3.1.upd_cls _ _)
  have e : Gr (Gr F w w3) w3.drew w4 = Gr F w w4 := Gr.trans (b := w3.drew) h3.2.size hF4.size
  rw [e] at h4
  exact ⟨q, rfl, hq, h4, Fr.trans' (b := w3.drew) h3.2.drew hF4⟩

set_option maxRecDepth 100000 in
set_option maxHeartbeats 800000 in
theorem tell_ok {w wp r t m cr M F} (h : WSt w wp r t m cr M F) {g : Int} {tid c : Nat} {f : Nat → Int} (hl : lk cr g = some ((tid : Int), c)) (hM : M c = some f) (hm : f tid < m) :
    Calls Try.prog 12 #[ptr wp, .int .i64 g] w (TellPost w wp r t m cr M F c f tid) := by
  have hO := of_some h hl
  have H := hid h
  have hcg : cg f (tid : Int) = f tid := by rw [cg_nn (by omega)]; rfl
  have hd : decide (cg f (tid : Int) < m) = true := decide_eq_true (by rw [hcg]; exact hm)
  have hmb := h.mb
  have htid : tid < 256 := by
    have := h.rng _ (lk_mem hl)
    have := h.tb
    simp only at *; omega
  have hwl : wp < w.heap.size := heap_lt h.hd
  have c1 := h.c1
  clear h hcg
  go_enter Try.func12, Try.ntmps12
  go_upto_region 7 with (first | (go_at_call 28; refine hO.mono ?_; rintro e w1 ⟨rfl, hs⟩; have HS := hid hs; clear hs) | (go_at_call 11; refine (can_some ((H.out.sil HS.out).alloc _) hl hM).mono ?_; rintro e w2 ⟨rfl, hs2⟩; have c60 := (sil_cell hs2 w1.heap.size 0 (by simp)).trans (World.cell?_alloc_at _ _ _ _ rfl); have c61 := (sil_cell hs2 w1.heap.size 1 (by simp)).trans (World.cell?_alloc_at _ _ _ _ rfl); have HS2 := hid hs2; clear hs2) | (go_at_call 30; refine (copy_any (H.out.sil ((HS.out.alloc _).trans HS2.out (fun _ x => x.elim))).clk hM).mono ?_; rintro e w3 ⟨q, rfl, hq1, hq2, hC, hF⟩))
  have h3 := H.out.new ((HS.out.alloc _).trans HS2.out (fun _ x => x.elim)) hq1 hC hF
  have hs1 := HS.out.size
  have hs2 := HS2.out.size
  simp only [World.size_alloc] at hs2
  have hcq : c ≠ q := by
    rintro rfl
    have := H.out.clk.fin _ (H.out.clk.at_ _ _ hM).1
    omega
  have hM3 : upd M q (some f) c = some f := by rw [upd_ne _ _ hcq]; exact hM
  have hT := tick_ok h3.1.clk hM3 htid hmb.1 hmb.2 hm
  have hnF : ¬ F w1.heap.size := fun x => by have := H.out.clk.fin _ x; omega
  have d0 := (cell_same (hF.keep w1.heap.size (by omega) hnF) 0).trans c60
  have d1 := (cell_same (hF.keep w1.heap.size (by omega) hnF) 1).trans c61
  have d2 := ((cell_same (hF.keep wp (by omega) H.out.nw) 1).trans ((cell_same (HS2.out.keep wp (by simp; omega) (fun x => x)) 1).trans ((cell_same (heap_alloc_lt _ _ (by omega)) 1).trans (cell_same (HS.out.keep wp hwl (fun x => x)) 1)))).trans c1
  have H3 := hid h3
  clear h3 hC hF c60 c61 hO hd
  simp only [List.getElem?_toArray, List.getElem?_cons_zero, List.getElem?_cons_succ] at d0 d1
  go_region_with (go_at_call 32; refine (tick_ok (H3.out.1.drew).clk hM3 htid hmb.1 hmb.2 hm).mono ?_; rintro e w4 ⟨rfl, hC4, hF4⟩)
  all_goals
    go_wp2_with fail
    go_ret2
    exact tell_end (by omega) H3.out hC4 hF4
end Go.Proofs.Ytepdifajieegeaa
