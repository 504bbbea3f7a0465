/- The watch: look-ups. -/
import Derived.Test.YtepdifajieegeaaWatA
import Derived.Test.YtepdifajieegeaaPlain
namespace Go.Proofs.Ytepdifajieegeaa
open Go.RowKit

theorem Try.zeroOne (w : World) : (zeroValue 60).run Try.prog w = .ok (.agg #[.int .i64 0, .pointer none]) w := by kernel_rfl

set_option maxRecDepth 100000 in
set_option maxHeartbeats 400000 in
theorem of_some {w wp r t m cr M F} (h : WSt w wp r t m cr M F) {g tid : Int} {c : Nat} (hl : lk cr g = some (tid, c)) :
    Calls Try.prog 28 #[ptr wp, .int .i64 g] w (SilRet w (.tuple #[oneV tid c, .bool true])) := by
  have c2 := h.c2
  have hwl : wp < w.heap.size := heap_lt h.hd
  obtain ⟨es, k, hm⟩ := h.mp
  have hrl := heap_lt hm.hd
  have hlk : Hid (∀ w', w'.heap[r]? = w.heap[r]? → (Instr.lookup 61 (.map (some r)) (.int .i64 g) true).run Try.prog w' = .ok (.tuple #[oneV tid c, .bool true]) w') := by
    intro w' hw
    have := run_lookup (hm.keep hw) Try.underlying61 Try.underlying3 (Try.zeroOne w') g true
    rw [find_crew, hl] at this
    exact this
  have h1 := hlk.out (w.alloc (.cells #[.int .i64 0, .pointer none] 60)) (heap_alloc_lt _ _ hrl)
  go_enter Try.func28, Try.ntmps28
  go_wp2_with fail
  exact bodyPost_ret (v := .tuple #[oneV tid c, .bool true]) (by simp [results, Try.results28, go_sem]) rfl ⟨rfl, ((Fr.refl _ _).alloc _).alloc _⟩

set_option maxRecDepth 100000 in
set_option maxHeartbeats 400000 in
theorem of_none {w wp r t m cr M F} (h : WSt w wp r t m cr M F) {g : Int} (hl : lk cr g = none) :
    Calls Try.prog 28 #[ptr wp, .int .i64 g] w (SilRet w (.tuple #[.agg #[.int .i64 0, .pointer none], .bool false])) := by
  have c2 := h.c2
  have hwl : wp < w.heap.size := heap_lt h.hd
  obtain ⟨es, k, hm⟩ := h.mp
  have hrl := heap_lt hm.hd
  have hlk : Hid (∀ w', w'.heap[r]? = w.heap[r]? → (Instr.lookup 61 (.map (some r)) (.int .i64 g) true).run Try.prog w' = .ok (.tuple #[.agg #[.int .i64 0, .pointer none], .bool false]) w') := by
    intro w' hw
    have := run_lookup (hm.keep hw) Try.underlying61 Try.underlying3 (Try.zeroOne w') g true
    rw [find_crew, hl] at this
    exact this
  have h1 := hlk.out (w.alloc (.cells #[.int .i64 0, .pointer none] 60)) (heap_alloc_lt _ _ hrl)
  go_enter Try.func28, Try.ntmps28
  go_wp2_with fail
  exact bodyPost_ret (v := .tuple #[.agg #[.int .i64 0, .pointer none], .bool false]) (by simp [results, Try.results28, go_sem]) rfl ⟨rfl, ((Fr.refl _ _).alloc _).alloc _⟩

set_option maxRecDepth 100000 in
set_option maxHeartbeats 400000 in
theorem of_nil (g : Int) (w : World) :
    Calls Try.prog 28 #[.pointer none, .int .i64 g] w (SilRet w (.tuple #[.agg #[.int .i64 0, .pointer none], .bool false])) := by
  go_enter Try.func28, Try.ntmps28
  go_wp2_with fail
  exact bodyPost_ret (v := .tuple #[.agg #[.int .i64 0, .pointer none], .bool false]) (by simp [results, Try.results28, go_sem]) rfl ⟨rfl, (Fr.refl _ _).alloc _⟩
end Go.Proofs.Ytepdifajieegeaa
