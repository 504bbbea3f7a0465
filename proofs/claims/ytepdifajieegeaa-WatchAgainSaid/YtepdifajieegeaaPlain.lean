/- staitheplain.Ints. -/
import Derived.Test.YtepdifajieegeaaRows
import Derived.Test.YtepdifajieegeaaLaws
namespace Go.Proofs.Ytepdifajieegeaa
open Go.RowKit

def SilRet (w : World) (v : Value) (e : Ending) (w' : World) : Prop := e = .returned v ∧ Fr (fun _ => False) w w'

theorem ints_upto {la lb : List Int} (k : Nat) (h1 : k ≤ la.length) (h2 : k ≤ lb.length) (h : ∀ j, (h : j < k) → la[j]'(by omega) = lb[j]'(by omega)) (he : k = la.length) : la = lb ↔ la.length = lb.length := by
  constructor
  · intro e; rw [e]
  · intro e; exact List.ext_getElem e fun i hi _ => h i (by omega)

set_option maxRecDepth 100000 in
set_option maxHeartbeats 400000 in
theorem ints_any {w : World} {va vb : Value} {la lb : List Int} {A B : Nat → Prop} (ha : IntsR w va la A) (hb : IntsR w vb lb B) (hla : la.length ≤ 1000000000) (hlb : lb.length ≤ 1000000000) :
    Calls Try.prog 15 #[va, vb] w (SilRet w (.bool (decide (la = lb)))) := by
  obtain ⟨sa, ca, rfl, ha⟩ := ha
  obtain ⟨sb, cb, rfl, hb⟩ := hb
  have HA := hid ha
  have HB := hid hb
  clear ha hb
  go_enter Try.func15, Try.ntmps15
  go_wp2_with fail
  go_loopw [5, 8] (fun _ i wr => ∃ k n : Nat, wr = w.drewN n ∧ k ≤ la.length ∧ i = .int .i64 k ∧ k ≤ lb.length ∧ ∀ j, (h : j < k) → (h1 : j < la.length) → (h2 : j < lb.length) → la[j] = lb[j]) (fun _ i _ => la.length - (intOf i).toNat)
  case atStart => exact ⟨0, 0, rfl, Nat.zero_le _, rfl, Nat.zero_le _, fun j hj => by omega⟩
  case round =>
    obtain ⟨k, n, rfl, hk, rfl, hkb, hall⟩ := hrel
    have HE := hid hall
    clear hall
    by_cases hlt : k < la.length
    · obtain ⟨b1, o1, rfl, _, hc1⟩ := HA.out k hlt
      by_cases hltb : k < lb.length
      · obtain ⟨b2, o2, rfl, _, hc2⟩ := HB.out k hltb
        by_cases he : la[k] = lb[k]
        · have HK := hid he
          have hne : (la[k] != lb[k]) = false := by simpa using he
          clear he
          go_wp2_with fail
          go_quiet (fail)
          go_wp2_with fail
          go_roundw
          case rel =>
            refine ⟨k + 1, _, rfl, by omega, by go_num, by omega, fun j hj h1 h2 => ?_⟩
            by_cases e : j = k
            · subst e; exact HK.out
            · exact HE.out j (by omega) h1 h2
          case measure => simp [intOf]; omega
        · have HK := hid he
          have hne : (la[k] != lb[k]) = true := by simpa using he
          clear he
          go_wp2_with fail
          go_quiet (fail)
          go_wp2_with fail
          go_ret
          refine ⟨ret_bool ?_, ((Fr.refl _ _).drewN _).drewN _⟩
          symm; rw [decide_eq_false_iff_not]
          rintro rfl
          exact HK.out rfl
      · have hd : decide (lb.length ≤ k) = true := decide_eq_true (by omega)
        go_wp2_with fail
        go_quiet (fail)
        go_wp2_with fail
        go_ret
        refine ⟨ret_bool ?_, ((Fr.refl _ _).drewN _).drewN _⟩
        symm; rw [decide_eq_false_iff_not]
        rintro rfl
        omega
    · go_wp2_with fail
      go_ret
      have hk' : k = la.length := by omega
      refine ⟨ret_bool ?_, (Fr.refl _ _).drewN _⟩
      rw [Bool.eq_iff_iff, beq_iff_eq, decide_eq_true_eq, ints_upto k hk hkb (fun j hj => HE.out j hj (by omega) (by omega)) hk']
      omega
end Go.Proofs.Ytepdifajieegeaa
