/- The watch: Can, Clock, Tid, Room, InUse, Know, Tell. -/
import Derived.Test.YtepdifajieegeaaWatB
namespace Go.Proofs.Ytepdifajieegeaa
open Go.RowKit

set_option maxRecDepth 100000 in
set_option maxHeartbeats 400000 in
theorem can_some {w wp r t m cr M F} (h : WSt w wp r t m cr M F) {g tid : Int} {c : Nat} {f : Nat → Int} (hl : lk cr g = some (tid, c)) (hM : M c = some f) :
    Calls Try.prog 11 #[ptr wp, .int .i64 g] w (SilRet w (.bool (decide (cg f tid < m)))) := by
  have hO := of_some h hl
  have c1 := h.c1
  have hwl : wp < w.heap.size := heap_lt h.hd
  have H := hid h
  clear h
  go_enter Try.func11, Try.ntmps11
  go_wp2_with (first | (go_at_call 28; refine hO.mono ?_; rintro e w1 ⟨rfl, hs⟩; have c1' := (sil_cell hs wp 1 hwl).trans c1; have hwl1 : wp < w1.heap.size := Nat.lt_of_lt_of_le hwl hs.size; have HS := hid hs; clear hs c1))
  go_quiet ((go_at_call 13; exact quiet_eq (get_any (((H.out.sil HS.out).alloc _).drewN _).clk hM _)))
  go_wp2_with fail
  go_ret
  exact ⟨rfl, (HS.out.alloc _).drewN _⟩

set_option maxRecDepth 100000 in
set_option maxHeartbeats 400000 in
theorem can_none {w wp r t m cr M F} (h : WSt w wp r t m cr M F) {g : Int} (hl : lk cr g = none) :
    Calls Try.prog 11 #[ptr wp, .int .i64 g] w (SilRet w (.bool false)) := by
  have hO := of_none h hl
  have hwl : wp < w.heap.size := heap_lt h.hd
  clear h
  go_enter Try.func11, Try.ntmps11
  go_wp2_with (first | (go_at_call 28; refine hO.mono ?_; rintro e w1 ⟨rfl, hs⟩; have HS := hid hs; clear hs))
  go_quiet (fail)
  go_wp2_with fail
  go_ret
  exact ⟨rfl, (HS.out.alloc _).drewN _⟩

/-- a clock handed out -/
def ClockPost (w : World) (wp r : Nat) (t m : Int) (cr : Crew) (M : Nat → Option (Nat → Int)) (F : Nat → Prop) (f : Nat → Int) (e : Ending) (w' : World) : Prop :=
  ∃ q, e = .returned (.tuple #[ptr q, .bool true]) ∧ w.heap.size ≤ q ∧ q < w'.heap.size ∧ WSt w' wp r t m cr (upd M q (some f)) (Gr F w w') ∧ Fr F w w'

theorem WSt.new {w w1 w' wp r t m cr M F} {q : Nat} {f : Nat → Int} (h : WSt w wp r t m cr M F) (hs : Fr (fun _ => False) w w1) (hq : w1.heap.size ≤ q) (hC : Clks w' (upd M q (some f)) (Gr F w1 w')) (k : Fr F w1 w') :
    WSt w' wp r t m cr (upd M q (some f)) (Gr F w w') ∧ Fr F w w' := by
  have h1 := h.sil hs
  have h2 := h1.clocks hC k (fun x hx => by
    obtain ⟨g, hg⟩ := h1.cls x hx
    have := h1.clk.fin _ (h1.clk.at_ _ _ hg).1
    exact ⟨g, by rw [upd_ne _ _ (by omega)]; exact hg⟩)
  have hFr : Fr F w w' := (hs.mono (fun _ x => x.elim)).trans k (fun _ g _ => g)
  refine ⟨?_, hFr⟩
  have := hs.size
  refine ⟨h2.clk.grow ?_ ?_, h2.hd, h2.mp, ?_, ?_, h2.keys, h2.tids, h2.ptrs, h2.rng, h2.cls, h2.tb, h2.mb⟩
  · rintro b (g | g); exact .inl g; exact .inr (by omega)
  · rintro b (g | g); have := h.clk.fin b g; have := hFr.size; omega; exact g.2
  · rintro (g | g); exact h.nw g; have := heap_lt h.hd; omega
  · rintro (g | g); exact h.nr g; obtain ⟨es, kk, hm⟩ := h.mp; have := heap_lt hm.hd; omega

set_option maxRecDepth 100000 in
set_option maxHeartbeats 400000 in
theorem clock_some {w wp r t m cr M F} (h : WSt w wp r t m cr M F) {g tid : Int} {c : Nat} {f : Nat → Int} (hl : lk cr g = some (tid, c)) (hM : M c = some f) :
    Calls Try.prog 10 #[ptr wp, .int .i64 g] w (ClockPost w wp r t m cr M F f) := by
  have hO := of_some h hl
  have H := hid h
  clear h
  go_enter Try.func10, Try.ntmps10
  go_wp2_with (first | (go_at_call 28; refine hO.mono ?_; rintro e w1 ⟨rfl, hs⟩; have HS := hid hs; clear hs) | (go_at_call 30; refine (copy_any ((H.out.sil HS.out).alloc _).clk hM).mono ?_; rintro e w2 ⟨q, rfl, hq1, hq2, hC, hF⟩))
  go_ret2
  obtain ⟨r1, r2⟩ := H.out.new (HS.out.alloc _) hq1 hC hF
  exact ⟨q, rfl, by have := HS.out.size; simp at hq1; omega, hq2, r1, r2⟩

set_option maxRecDepth 100000 in
set_option maxHeartbeats 400000 in
theorem tid_some {w wp r t m cr M F} (h : WSt w wp r t m cr M F) {g tid : Int} {c : Nat} (hl : lk cr g = some (tid, c)) :
    Calls Try.prog 23 #[ptr wp, .int .i64 g] w (SilRet w (.tuple #[.int .i64 tid, .bool true])) := by
  have hO := of_some h hl
  clear h
  go_enter Try.func23, Try.ntmps23
  go_wp2_with (first | (go_at_call 28; refine hO.mono ?_; rintro e w1 ⟨rfl, hs⟩; have HS := hid hs; clear hs))
  go_ret2
  exact ⟨rfl, HS.out.alloc _⟩
end Go.Proofs.Ytepdifajieegeaa
