/- The watch: Room, Spawn. -/
import Derived.Test.YtepdifajieegeaaWatE
namespace Go.Proofs.Ytepdifajieegeaa
open Go.RowKit

set_option maxRecDepth 100000 in
set_option maxHeartbeats 400000 in
theorem room_any {w wp r t m cr M F} (h : WSt w wp r t m cr M F) : Calls Try.prog 25 #[ptr wp] w (SilRet w (.bool (decide ((cr.length : Int) < t)))) := by
  have c0 := h.c0
  have c2 := h.c2
  have hwl : wp < w.heap.size := heap_lt h.hd
  obtain ⟨es, k, hm⟩ := h.mp
  have hlen : ∀ n ty, (Builtin.len_ #[61] ty #[.map (some r)]).run Try.prog (w.drewN n) = .ok (.int .i64 cr.length) (w.drewN n) := by
    intro n ty
    have := run_len (P := Try.prog) (hm.keep (w' := w.drewN n) rfl) Try.underlying61 ty
    simpa [crewL] using this
  clear h hm
  go_enter Try.func25, Try.ntmps25
  go_wp2_with fail
  go_quiet (fail)
  go_wp2_with fail
  go_ret
  exact ⟨rfl, (Fr.refl _ _).drewN _⟩

set_option maxRecDepth 100000 in
set_option maxHeartbeats 400000 in
theorem spawn_none {w wp r t m cr M F} (h : WSt w wp r t m cr M F) {p g : Int} (hp : lk cr p = none) :
    Calls Try.prog 9 #[ptr wp, .int .i64 p, .int .i64 g] w (SilRet w (.tuple #[.int .i64 0, .int .i64 6])) := by
  have H := hid h
  have hO := of_none h hp
  have hG : ∀ w', Hid (WSt w' wp r t m cr M F) → Calls Try.prog 28 #[ptr wp, .int .i64 g] w' (fun e w'' => ∃ v b, e = .returned (.tuple #[.agg #[.int .i64 v, .pointer b], .bool (lk cr g).isSome]) ∧ Fr (fun _ => False) w' w'') := by
    intro w' h'
    cases hl : lk cr g with
    | none => exact (of_none h'.out hl).mono fun e w2 ⟨a, b⟩ => ⟨_, _, a, b⟩
    | some y => exact (of_some h'.out hl).mono fun e w2 ⟨a, b⟩ => ⟨_, _, a, b⟩
  clear h
  go_enter Try.func9, Try.ntmps9
  go_upto_region 2 with (go_at_call 28; refine hO.mono ?_; rintro e w1 ⟨rfl, hs⟩; have HS := hid hs; clear hs)
  go_wp2_with (go_at_call 28; refine (hG _ ((H.out.sil HS.out).alloc _)).mono ?_; rintro e w2 ⟨v, b, rfl, hs2⟩; have HS2 := hid hs2; clear hs2)
  go_ret2
  exact ⟨rfl, ((HS.out.alloc _).trans HS2.out (fun _ x => x.elim)).alloc _⟩

/-- child is below 0, or has a tid -/
theorem of_dec {w wp r t m cr M F} (h : WSt w wp r t m cr M F) (g : Int) :
    Calls Try.prog 28 #[ptr wp, .int .i64 g] w (fun e w'' => ∃ v b, e = .returned (.tuple #[.agg #[.int .i64 v, .pointer b], .bool (lk cr g).isSome]) ∧ Fr (fun _ => False) w w'') := by
  cases hl : lk cr g with
  | none => exact (of_none h hl).mono fun e w2 ⟨a, b⟩ => ⟨_, _, a, b⟩
  | some y => exact (of_some h hl).mono fun e w2 ⟨a, b⟩ => ⟨_, _, a, b⟩

set_option maxRecDepth 100000 in
set_option maxHeartbeats 400000 in
theorem spawn_arg {w wp r t m cr M F} (h : WSt w wp r t m cr M F) {p g tid : Int} {c : Nat} (hp : lk cr p = some (tid, c)) (hg : g < 0 ∨ lk cr g ≠ none) :
    Calls Try.prog 9 #[ptr wp, .int .i64 p, .int .i64 g] w (SilRet w (.tuple #[.int .i64 0, .int .i64 1])) := by
  have H := hid h
  have hO := of_some h hp
  clear h
  by_cases hg0 : g < 0
  · clear hg
    go_enter Try.func9, Try.ntmps9
    go_upto_region 2 with (go_at_call 28; refine hO.mono ?_; rintro e w1 ⟨rfl, hs⟩; have HS := hid hs; clear hs)
    go_wp2_with (go_at_call 28; refine (of_dec ((H.out.sil HS.out).alloc _) g).mono ?_; rintro e w2 ⟨v, b, rfl, hs2⟩; have HS2 := hid hs2; clear hs2)
    go_ret2
    exact ⟨rfl, ((HS.out.alloc _).trans HS2.out (fun _ x => x.elim)).alloc _⟩
  · have hs : (lk cr g).isSome = true := by
      rcases hg with hg | hg
      · exact absurd hg hg0
      · exact Option.isSome_iff_ne_none.2 hg
    clear hg
    go_enter Try.func9, Try.ntmps9
    go_upto_region 2 with (go_at_call 28; refine hO.mono ?_; rintro e w1 ⟨rfl, hs⟩; have HS := hid hs; clear hs)
    go_wp2_with (go_at_call 28; refine (of_dec ((H.out.sil HS.out).alloc _) g).mono ?_; rintro e w2 ⟨v, b, rfl, hs2⟩; have HS2 := hid hs2; clear hs2)
    go_ret2
    exact ⟨rfl, ((HS.out.alloc _).trans HS2.out (fun _ x => x.elim)).alloc _⟩

set_option maxRecDepth 100000 in
set_option maxHeartbeats 400000 in
theorem spawn_full {w wp r t m cr M F} (h : WSt w wp r t m cr M F) {p g tid : Int} {c : Nat} (hp : lk cr p = some (tid, c)) (hg0 : 0 ≤ g) (hg : lk cr g = none) (ht : t ≤ (cr.length : Int)) :
    Calls Try.prog 9 #[ptr wp, .int .i64 p, .int .i64 g] w (SilRet w (.tuple #[.int .i64 0, .int .i64 5])) := by
  have H := hid h
  have hO := of_some h hp
  have hd : decide ((cr.length : Int) < t) = false := decide_eq_false (by omega)
  clear h
  go_enter Try.func9, Try.ntmps9
  go_upto_region 2 with (go_at_call 28; refine hO.mono ?_; rintro e w1 ⟨rfl, hs⟩; have HS := hid hs; clear hs)
  go_wp2_with (first | (go_at_call 28; refine (of_none ((H.out.sil HS.out).alloc _) hg).mono ?_; rintro e w2 ⟨rfl, hs2⟩; have HS2 := hid ((HS.out.alloc _).trans hs2 (fun _ x => x.elim)); clear hs2) | (go_at_call 25; refine (room_any ((H.out.sil HS2.out).alloc _)).mono ?_; rintro e w3 ⟨rfl, hs3⟩; have HS3 := hid ((HS2.out.alloc _).trans hs3 (fun _ x => x.elim)); clear hs3))
  go_ret2
  exact ⟨rfl, HS3.out⟩

end Go.Proofs.Ytepdifajieegeaa
