/- WatchNil: a nil watch. -/
import Derived.Test.YtepdifajieegeaaTwo
namespace Go.Proofs.Ytepdifajieegeaa
open Go.RowKit

set_option maxRecDepth 100000 in
set_option maxHeartbeats 400000 in
theorem spawn_nil (p g : Int) (w : World) : Calls Try.prog 9 #[.pointer none, .int .i64 p, .int .i64 g] w (SilRet w (.tuple #[.int .i64 0, .int .i64 6])) := by
  go_enter Try.func9, Try.ntmps9
  go_upto_region 2 with (go_at_call 28; refine (of_nil _ _).mono ?_; rintro e w1 ⟨rfl, hs⟩; have HS := hid hs; clear hs)
  go_wp2_with (go_at_call 28; refine (of_nil _ _).mono ?_; rintro e w2 ⟨rfl, hs2⟩; have HS2 := hid ((HS.out.alloc _).trans hs2 (fun _ x => x.elim)); clear hs2)
  go_ret2
  exact ⟨rfl, HS2.out.alloc _⟩

set_option maxRecDepth 100000 in
set_option maxHeartbeats 400000 in
theorem tell_nil (g : Int) (w : World) : Calls Try.prog 12 #[.pointer none, .int .i64 g] w (SilRet w (.tuple #[.pointer none, .int .i64 6])) := by
  go_enter Try.func12, Try.ntmps12
  go_wp2_with (go_at_call 28; refine (of_nil _ _).mono ?_; rintro e w1 ⟨rfl, hs⟩; have HS := hid hs; clear hs)
  go_ret2
  exact ⟨rfl, HS.out.alloc _⟩

set_option maxRecDepth 100000 in
set_option maxHeartbeats 400000 in
theorem clock_nil (g : Int) (w : World) : Calls Try.prog 10 #[.pointer none, .int .i64 g] w (SilRet w (.tuple #[.pointer none, .bool false])) := by
  go_enter Try.func10, Try.ntmps10
  go_wp2_with (go_at_call 28; refine (of_nil _ _).mono ?_; rintro e w1 ⟨rfl, hs⟩; have HS := hid hs; clear hs)
  go_ret2
  exact ⟨rfl, HS.out.alloc _⟩

set_option maxRecDepth 100000 in
set_option maxHeartbeats 400000 in
theorem tid_nil (g : Int) (w : World) : Calls Try.prog 23 #[.pointer none, .int .i64 g] w (SilRet w (.tuple #[.int .i64 0, .bool false])) := by
  go_enter Try.func23, Try.ntmps23
  go_wp2_with (go_at_call 28; refine (of_nil _ _).mono ?_; rintro e w1 ⟨rfl, hs⟩; have HS := hid hs; clear hs)
  go_ret2
  exact ⟨rfl, HS.out.alloc _⟩

set_option maxRecDepth 100000 in
set_option maxHeartbeats 400000 in
theorem know_nil (g : Int) (c : Value) (w : World) : Calls Try.prog 14 #[.pointer none, .int .i64 g, c] w (SilRet w (.int .i64 6)) := by
  go_enter Try.func14, Try.ntmps14
  go_wp2_with (go_at_call 28; refine (of_nil _ _).mono ?_; rintro e w1 ⟨rfl, hs⟩; have HS := hid hs; clear hs)
  go_ret
  exact ⟨rfl, HS.out.alloc _⟩

set_option maxRecDepth 100000 in
set_option maxHeartbeats 400000 in
theorem retire_nil (g : Int) (w : World) : Calls Try.prog 22 #[.pointer none, .int .i64 g] w (SilRet w (.int .i64 6)) := by
  go_enter Try.func22, Try.ntmps22
  go_wp2_with (go_at_call 28; refine (of_nil _ _).mono ?_; rintro e w1 ⟨rfl, hs⟩; have HS := hid hs; clear hs)
  go_ret
  exact ⟨rfl, HS.out.alloc _⟩

set_option maxRecDepth 100000 in
set_option maxHeartbeats 400000 in
theorem epoch_nil (g : Int) (w : World) : Calls Try.prog 24 #[.pointer none, .int .i64 g] w (SilRet w (.int .u64 0)) := by
  go_enter Try.func24, Try.ntmps24
  go_wp2_with (go_at_call 28; refine (of_nil _ _).mono ?_; rintro e w1 ⟨rfl, hs⟩; have HS := hid hs; clear hs)
  go_ret
  exact ⟨rfl, HS.out.alloc _⟩

set_option maxRecDepth 100000 in
set_option maxHeartbeats 400000 in
theorem can_nil (g : Int) (w : World) : Calls Try.prog 11 #[.pointer none, .int .i64 g] w (SilRet w (.bool false)) := by
  go_enter Try.func11, Try.ntmps11
  go_wp2_with (go_at_call 28; refine (of_nil _ _).mono ?_; rintro e w1 ⟨rfl, hs⟩; have HS := hid hs; clear hs)
  go_quiet (fail)
  go_wp2_with fail
  go_ret
  exact ⟨rfl, (HS.out.alloc _).drewN _⟩

set_option maxRecDepth 100000 in
set_option maxHeartbeats 400000 in
theorem room_nil (w : World) : Calls Try.prog 25 #[.pointer none] w (SilRet w (.bool false)) := by
  go_enter Try.func25, Try.ntmps25
  go_wp2_with fail
  go_quiet (fail)
  go_wp2_with fail
  go_ret
  exact ⟨rfl, (Fr.refl _ _).drewN _⟩

set_option maxRecDepth 100000 in
set_option maxHeartbeats 400000 in
theorem inuse_nil (w : World) : Calls Try.prog 26 #[.pointer none] w (SilRet w (.int .i64 0)) := by
  go_enter Try.func26, Try.ntmps26
  go_wp2_with fail
  go_ret
  exact ⟨rfl, Fr.refl _ _⟩

set_option maxRecDepth 100000 in
set_option maxHeartbeats 400000 in
theorem all_nil (w : World) : Calls Try.prog 20 #[.pointer none] w (SilRet w (.slice none 0 0)) := by
  go_enter Try.func20, Try.ntmps20
  go_wp2_with fail
  go_ret
  exact ⟨rfl, Fr.refl _ _⟩

/-- 'refine (sil c h).mono ..': a silent contract behind a silent beginning -/
theorem sil {P : Program} {f : FuncId} {args : Array Value} {w0 w : World} {v : Value} (h : Calls P f args w (SilRet w v)) (k : Fr (fun _ => False) w0 w) : Calls P f args w fun e w' => e = .returned v ∧ Hid (Fr (fun _ => False) w0 w') :=
  h.mono fun _ _ ⟨a, b⟩ => ⟨a, k.trans b (fun _ x => x.elim)⟩

set_option maxRecDepth 100000 in
set_option maxHeartbeats 1600000 in
theorem nil_any (w : World) (g k : Int) : Calls Try.prog 6 #[.int .i64 g, .int .i64 k] w (SilRet w (.bool true)) := by
  have HS := hid (Fr.refl (fun _ => False) w)
  go_enter Try.func6, Try.ntmps6
  go_wp2_with (first
    | (go_at_call 9; refine (sil (spawn_nil _ _ _) HS.out).mono ?_; clear HS; rintro e w1 ⟨rfl, HS⟩)
    | (go_at_call 12; refine (sil (tell_nil _ _) HS.out).mono ?_; clear HS; rintro e w1 ⟨rfl, HS⟩)
    | (go_at_call 10; refine (sil (clock_nil _ _) HS.out).mono ?_; clear HS; rintro e w1 ⟨rfl, HS⟩)
    | (go_at_call 23; refine (sil (tid_nil _ _) HS.out).mono ?_; clear HS; rintro e w1 ⟨rfl, HS⟩)
    | (go_at_call 14; refine (sil (know_nil _ _ _) HS.out).mono ?_; clear HS; rintro e w1 ⟨rfl, HS⟩)
    | (go_at_call 22; refine (sil (retire_nil _ _) HS.out).mono ?_; clear HS; rintro e w1 ⟨rfl, HS⟩)
    | (go_at_call 24; refine (sil (epoch_nil _ _) HS.out).mono ?_; clear HS; rintro e w1 ⟨rfl, HS⟩)
    | (go_at_call 11; refine (sil (can_nil _ _) HS.out).mono ?_; clear HS; rintro e w1 ⟨rfl, HS⟩)
    | (go_at_call 25; refine (sil (room_nil _) HS.out).mono ?_; clear HS; rintro e w1 ⟨rfl, HS⟩)
    | (go_at_call 26; refine (sil (inuse_nil _) HS.out).mono ?_; clear HS; rintro e w1 ⟨rfl, HS⟩)
    | (go_at_call 20; refine (sil (all_nil _) HS.out).mono ?_; clear HS; rintro e w1 ⟨rfl, HS⟩)
    | (go_at_call 8; refine (sil (two_any _) HS.out).mono ?_; clear HS; rintro e w1 ⟨rfl, HS⟩))
  go_ret
  exact ⟨rfl, HS.out⟩
end Go.Proofs.Ytepdifajieegeaa
