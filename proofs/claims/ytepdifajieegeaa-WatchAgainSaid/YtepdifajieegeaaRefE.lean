/- The reference's watch: free. No condition. -/
import Derived.Test.YtepdifajieegeaaRefD
namespace Go.Proofs.Ytepdifajieegeaa
open Go.RowKit

/-- r is the least free tid, or -1 -/
def FreeL (L : List (Int × Int)) (T : Int) (r : Int) : Prop :=
  (r = -1 ∧ ∀ j : Int, 0 ≤ j → j < T → ∃ x ∈ L, x.2 = j) ∨ (0 ≤ r ∧ r < T ∧ (∀ x ∈ L, x.2 ≠ r) ∧ ∀ j : Int, 0 ≤ j → j < r → ∃ x ∈ L, x.2 = j)
def usedL (L : List (Int × Int)) (m : Nat) (t : Int) : Bool := (L.take m).any fun x => x.2 == t
theorem usedL_succ {L : List (Int × Int)} {m : Nat} (h : m < L.length) (t : Int) : usedL L (m + 1) t = (usedL L m t || (L[m].2 == t)) := by
  simp only [usedL, List.take_succ_eq_append_getElem h, List.any_append, List.any_cons, List.any_nil, Bool.or_false]
theorem usedL_all {L : List (Int × Int)} {m : Nat} (h : m = L.length) (t : Int) : usedL L m t = true ↔ ∃ x ∈ L, x.2 = t := by
  subst h; simp [usedL]

def FreeRet (w : World) (L : List (Int × Int)) (T : Int) (e : Ending) (w' : World) : Prop := (∃ r, e = .returned (.int .i64 r) ∧ FreeL L T r) ∧ Fr (fun _ => False) w w'

set_option maxRecDepth 100000 in
set_option maxHeartbeats 2000000 in
theorem rfree_any {w xp T M L G} (h : RSt w xp T M L G) (hT : T ≤ 256) : Calls Try.prog 49 #[ptr xp] w (FreeRet w L T) := by
  have hxl := h.lt
  obtain ⟨v, c0, c1, c2, _, hv⟩ := h.cells
  have hlen := h.len
  rcases hv with ⟨rfl, rfl⟩ | ⟨rb, cap, rfl, hrb, _, _, xs, hX, hR, _⟩
  · clear h
    go_enter Try.func49, Try.ntmps49
    go_wp2_with fail
    go_loopw [3] (fun i wr => wr = w ∧ i = .int .i64 0) (fun _ _ => 0)
    case atStart => exact ⟨rfl, rfl⟩
    case round =>
      obtain ⟨rfl, rfl⟩ := hrel
      by_cases h0 : 0 < T
      · go_wp2_with fail
        go_loopw [4, 20] (fun b i w2 => w2 = wr ∧ b = .bool false ∧ i = .int .i64 0) (fun _ _ _ => 0)
        case atStart => exact ⟨rfl, rfl, rfl⟩
        case round =>
          obtain ⟨rfl, rfl, rfl⟩ := hrel
          go_wp2_with fail
          go_ret
          exact ⟨⟨0, rfl, .inr ⟨by omega, h0, (fun x hx => by cases hx), fun j a b => by omega⟩⟩, Fr.refl _ _⟩
      · go_wp2_with fail
        go_ret
        exact ⟨⟨-1, rfl, .inl ⟨rfl, fun j a b => by omega⟩⟩, Fr.refl _ _⟩
  · obtain ⟨Z, hz, hzs, hi⟩ := zero75
    have HX := hid hX
    have HR := hid hR
    clear h hX hR
    go_enter Try.func49, Try.ntmps49
    go_wp2_with fail
    go_loopw [3] (fun i wr => ∃ t : Nat, (t : Int) ≤ 256 ∧ i = .int .i64 t ∧ Fr (fun _ => False) w wr ∧ ∀ j : Int, 0 ≤ j → j < t → ∃ x ∈ L, x.2 = j) (fun i _ => 257 - (intOf i).toNat)
    case atStart => exact ⟨0, by omega, rfl, Fr.refl _ _, fun j a b => by omega⟩
    case round =>
      obtain ⟨t, ht, rfl, hF, hU⟩ := hrel
      have d0 := (sil_cell hF xp 0 hxl).trans c0
      have d2 := (sil_cell hF xp 2 hxl).trans c2
      have HF := hid hF
      have HU := hid hU
      clear hF hU c0 c1 c2
      by_cases h0 : (t : Int) < T
      · go_wp2_with fail
        go_loopw [4, 20] (fun b i w2 => ∃ m : Nat, m ≤ L.length ∧ b = .bool (usedL L m t) ∧ i = .int .i64 m ∧ Fr (fun _ => False) w w2) (fun _ i _ => L.length - (intOf i).toNat)
        case atStart => exact ⟨0, by omega, rfl, rfl, HF.out⟩
        case round =>
          obtain ⟨m, hm, rfl, rfl, hF2⟩ := hrel
          by_cases hlt : m < L.length
          · have HF2 := hid hF2
            have hone := HX.out.one (range_keep HR.out (HF2.out.keep rb hrb (fun x => x))) hlt
            generalize el xs m = E at hone
            have O := hid hone
            have e1 := hone.t
            have hi' : (Try.prog.info? 75).map (·.size) = some E.length := by rw [hone.len]; exact hi
            clear hone hF2 d0 d2
            have HS := hid (usedL_succ hlt (t : Int))
            cases hb : usedL L m (t : Int)
            all_goals
              rw [hb] at HS
              go_wp2_with (first
                | (refine wpList_load_mid (op := ⟨some 23, _, _, _, _, _⟩) rfl 75 _ rfl rb (m * 258) rfl E _ O.out.at_ Try.underlying75 rfl hi' ?_)
                | (refine wpList_store_new (o := ⟨none, _, _, _, _, _⟩) rfl 75 _ _ rfl wr Z E.toArray rfl rfl (by simpa using hi') (by simp [O.out.len, hzs]) (all_one O.out.len O.out.c) ?_))
              go_roundw
              case rel => exact ⟨m + 1, by omega, by rw [HS.out]; simp, by go_num, HF2.out.alloc _⟩
              case measure => simp [intOf]; omega
          · have hall := usedL_all (L := L) (m := m) (by omega) (t : Int)
            have HL := hid hall
            have HF2 := hid hF2
            clear hall hF2
            cases hb : usedL L m (t : Int)
            · go_wp2_with fail
              go_ret
              refine ⟨⟨t, rfl, .inr ⟨by omega, h0, fun x hx e => ?_, HU.out⟩⟩, HF2.out⟩
              rw [HL.out.2 ⟨x, hx, e⟩] at hb
              cases hb
            · go_wp2_with fail
              go_roundw
              case rel =>
                refine ⟨t + 1, by omega, by go_num, HF2.out, fun j a c => ?_⟩
                by_cases e : j = t
                · subst e; exact HL.out.1 hb
                · exact HU.out j a (by omega)
              case measure => simp [intOf]; omega
      · go_wp2_with fail
        go_ret
        exact ⟨⟨-1, rfl, .inl ⟨rfl, fun j a b => HU.out j a (by omega)⟩⟩, HF.out⟩
end Go.Proofs.Ytepdifajieegeaa
