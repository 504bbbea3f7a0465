/- The reference's clock: List. No condition. -/
import Derived.Test.YtepdifajieegeaaRefA
namespace Go.Proofs.Ytepdifajieegeaa
open Go.RowKit

/-- 'append(s, z)', s of the call's own making -/
theorem wpList_app1 {P : Program} {ops : Array Oper} {rest : List Oper} {o : Oper} {a : Act} {Q : Exit → Act → World → Prop} (hg : o.guard = none) (s x : Operand) (t : TypeId) (ho : o.op = .call { callee := .builtin .append, args := #[s, x], argTypes := #[t, t] })
    (e : TypeId) (i : TypeInfo) (ht : P.underlying t = some (.slice e)) (hi : P.info? e = some i) (hz : i.zero = some (.int .i64 0)) (hsize : i.size = 1) (hby : i.bytes = 8)
    {w0 w : World} {v : Value} {n : Nat} {l : List Int} {z : Int} (hs : a.eval s = v) (hx : a.eval x = .slice (some ⟨w.heap.size, 0, none⟩) 1 1) (hF : Hid (Fr (fun _ => False) w0 w)) (hO : Hid (w.ownsRow w0.heap.size e 1 v n (l.map (Value.int .i64)))) (hn : n ≤ 100000000)
    (h : ∀ v' w', Hid (w'.ownsRow w0.heap.size e 1 v' (n + 1) ((l ++ [z]).map (Value.int .i64))) → Hid (Fr (fun _ => False) w0 w') → wpList P ops Q rest (a.put o.dst v') w') :
    wpList P ops Q (o :: rest) a (w.alloc (.cells #[.int .i64 z] e)) := by
  have hsz := hF.out.size
  refine wpList_append_ints _ hg s x t ho w0.heap.size e i .i64 8 ht hi hz hsize hby v n l hs (hO.out.alloc _) (some ⟨w.heap.size, 0, none⟩) 1 [z] hx (fun e => by cases e) (fun i hi => ⟨w.heap.size, 0, rfl, ?_⟩) (by simp; omega) (by omega) (by simp; omega) ?_
  · cases i with
    | zero => exact (cell_blk (heap_alloc_new w _) 0).trans (by simp)
    | succ i => simp at hi
  · intro v' w' h1 h2
    exact h v' w' h1 (grown_fr h2 (hF.out.alloc _) (fun m e => .inr (hO.out.lt m e).1))

set_option maxRecDepth 100000 in
set_option maxHeartbeats 1000000 in
theorem rlist_any {w c} (h : CB w c) : Calls Try.prog 39 #[ptr c] w fun e w' => ∃ v l, e = .returned v ∧ l.length ≤ 256 ∧ IntsR w' v l (fun b => w.heap.size ≤ b) ∧ Fr (fun _ => False) w w' := by
  obtain ⟨i3, hi, hz0, hz1, hz2⟩ := Try.info3'
  have HX := hid (fun j => h.cell (j := j))
  have H := hid h
  clear h
  go_enter Try.func39, Try.ntmps39
  go_wp2_with fail
  go_loop [3, 4] (fun b i => ∃ k : Nat, k ≤ 256 ∧ i = .int .i64 k ∧ ∃ n : Nat, n ≤ 256 ∧ b = .int .i64 n) (fun _ i => 256 - (intOf i).toNat)
  case atStart => exact ⟨0, by omega, rfl, 0, by omega, rfl⟩
  case round =>
    obtain ⟨k, hk, rfl, n, hn, rfl⟩ := hrel
    by_cases hlt : k < 256
    · obtain ⟨x, hx⟩ := HX.out k hlt
      by_cases h0 : 0 < x
      · go_wp2_with fail
        go_round
        case rel => exact ⟨k + 1, by omega, by go_num, k + 1, by omega, by go_num⟩
        case measure => simp [intOf]; omega
      · go_wp2_with fail
        go_round
        case rel => exact ⟨k + 1, by omega, by go_num, n, by omega, rfl⟩
        case measure => simp [intOf]; omega
    · go_wp2_with fail
      go_loopw [5, 6] (fun s i wr => ∃ k : Nat, k ≤ n ∧ i = .int .i64 k ∧ Fr (fun _ => False) w wr ∧ ∃ l : List Int, l.length = k ∧ wr.ownsRow w.heap.size 3 1 s k (l.map (Value.int .i64))) (fun _ i _ => n - (intOf i).toNat)
      case atStart => exact ⟨0, by omega, rfl, Fr.refl _ _, [], rfl, ⟨rfl, .inl ⟨rfl, rfl⟩⟩⟩
      case round =>
        obtain ⟨j, hj, rfl, hF, l, hl, hO⟩ := hrel
        by_cases hlt : j < n
        · obtain ⟨x, hx⟩ := HX.out j (by omega)
          have hx' : wr.cell? ⟨c, j, none⟩ = some (.int .i64 x) := by rw [sil_cell hF c j H.out.lt]; exact hx
          have HF := hid hF
          have HO := hid hO
          have hsz := hF.size
          clear hF hO hx
          go_wp2_with (at_builtin; refine wpList_app1 rfl _ _ _ rfl 3 i3 Try.underlying38 hi hz0 hz1 hz2 (w0 := w) (w := wr) (v := u5) (n := j) (l := l) (z := x) rfl rfl HF HO (by omega) ?_; intro v' w' HO' HF')
          go_roundw
          case rel =>
            exact ⟨j + 1, by omega, by go_num, HF'.out, l ++ [x], by simp [hl], HO'.out⟩
          case measure => simp [intOf]; omega
        · go_wp2_with fail
          go_ret
          refine ⟨_, l, rfl, by omega, IntsR.ofRow hO, hF⟩
end Go.Proofs.Ytepdifajieegeaa
