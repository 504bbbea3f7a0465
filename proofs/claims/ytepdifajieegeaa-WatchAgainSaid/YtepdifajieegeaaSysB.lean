/- The watch's methods, on what is known. No condition. -/
import Derived.Test.YtepdifajieegeaaSysA
namespace Go.Proofs.Ytepdifajieegeaa
open Go.RowKit

set_option maxRecDepth 100000 in
set_option maxHeartbeats 400000 in
theorem know_none {w wp r t m cr M F} (h : WSt w wp r t m cr M F) {g : Int} (hl : lk cr g = none) (v : Value) :
    Calls Try.prog 14 #[ptr wp, .int .i64 g, v] w (SilRet w (.int .i64 6)) := by
  have hO := of_none h hl
  clear h
  go_enter Try.func14, Try.ntmps14
  go_wp2_with (go_at_call 28; refine hO.mono ?_; rintro e w1 ⟨rfl, hs⟩; have HS := hid hs; clear hs)
  go_ret
  exact ⟨rfl, HS.out.alloc _⟩
set_option maxRecDepth 100000 in
set_option maxHeartbeats 400000 in
theorem tell_none {w wp r t m cr M F} (h : WSt w wp r t m cr M F) {g : Int} (hl : lk cr g = none) :
    Calls Try.prog 12 #[ptr wp, .int .i64 g] w (SilRet w (.tuple #[.pointer none, .int .i64 6])) := by
  have hO := of_none h hl
  clear h
  go_enter Try.func12, Try.ntmps12
  go_wp2_with (go_at_call 28; refine hO.mono ?_; rintro e w1 ⟨rfl, hs⟩; have HS := hid hs; clear hs)
  go_ret2
  exact ⟨rfl, HS.out.alloc _⟩

/-- the crew behind a spawn -/
def SpawnC (cr : Crew) (t p g : Int) (cr' : Crew) : Prop :=
  (cr' = cr ∧ (lk cr p = none ∨ g < 0 ∨ lk cr g ≠ none ∨ t ≤ (cr.length : Int))) ∨
  ∃ n q : Nat, cr' = cr ++ [(g, (n : Int), q)] ∧ lk cr p ≠ none ∧ 0 ≤ g ∧ lk cr g = none ∧ (cr.length : Int) < t ∧ IsFree cr n ∧ (n : Int) < t
def WSpawnP (w0 w : World) (wp r : Nat) (t m : Int) (cr : Crew) (F : Nat → Prop) (p g : Int) (e : Ending) (w' : World) : Prop :=
  ∃ a b cr' M' F', e = .returned (.tuple #[.int .i64 a, .int .i64 b]) ∧ SpawnC cr t p g cr' ∧ Turn w0 w w' wp r t m F cr' M' F'

theorem wspawn_any {w0 w wp r t m cr M F} (h : WS w0 w wp r t m cr M F) (p : Int) {g : Int} (hg : (Lit.int .i64 g).wf = true) :
    Calls Try.prog 9 #[ptr wp, .int .i64 p, .int .i64 g] w (WSpawnP w0 w wp r t m cr F p g) := by
  cases hp : lk cr p with
  | none => exact (spawn_none h.st hp).mono fun e w' ⟨e1, hs⟩ => ⟨_, _, cr, M, F, e1, .inl ⟨rfl, .inl hp⟩, h.same hs⟩
  | some y =>
    obtain ⟨tid, c⟩ := y
    by_cases h1 : g < 0 ∨ lk cr g ≠ none
    · exact (spawn_arg h.st hp h1).mono fun e w' ⟨e1, hs⟩ => ⟨_, _, cr, M, F, e1, .inl ⟨rfl, .inr (by rcases h1 with h1 | h1; exact .inl h1; exact .inr (.inl h1))⟩, h.same hs⟩
    · have hg0 : 0 ≤ g := by
        rcases Int.lt_or_le g 0 with x | x
        · exact absurd (.inl x) h1
        · exact x
      have hgn : lk cr g = none := Classical.byContradiction fun x => h1 (.inr x)
      by_cases h2 : t ≤ (cr.length : Int)
      · exact (spawn_full h.st hp hg0 hgn h2).mono fun e w' ⟨e1, hs⟩ => ⟨_, _, cr, M, F, e1, .inl ⟨rfl, .inr (.inr (.inr h2))⟩, h.same hs⟩
      · obtain ⟨f, hf⟩ := h.st.cls _ (lk_mem hp)
        refine (spawn_ok h.st hp hf hg0 hgn (by omega)).mono ?_
        rintro e w' ⟨n, q, rfl, hfree, hn, hq, hW, hF⟩
        refine ⟨_, _, _, _, _, rfl, .inr ⟨n, q, rfl, by rw [hp]; simp, hg0, hgn, by omega, hfree, hn⟩, h.turn hW hF (h.kn.spawn h.st (lk_mem hp) hf hfree (h.st.new_ne hq) g) ?_⟩
        intro x hx
        rcases List.mem_append.1 hx with hx | hx
        · exact h.wf x hx
        · simp at hx; subst hx; exact hg

def WKnowP (w0 w : World) (wp r : Nat) (t m : Int) (cr : Crew) (F : Nat → Prop) (e : Ending) (w' : World) : Prop :=
  ∃ z M' F', e = .returned (.int .i64 z) ∧ Turn w0 w w' wp r t m F cr M' F'
theorem wknow_any {w0 w wp r t m cr M F} (h : WS w0 w wp r t m cr M F) (g : Int) {q : Nat} {fq : Nat → Int} (hq : M q = some fq) (hb : Bel cr M fq) :
    Calls Try.prog 14 #[ptr wp, .int .i64 g, ptr q] w (WKnowP w0 w wp r t m cr F) := by
  cases hp : lk cr g with
  | none => exact (know_none h.st hp _).mono fun e w' ⟨e1, hs⟩ => ⟨_, M, F, e1, h.same hs⟩
  | some y =>
    obtain ⟨tid, c⟩ := y
    obtain ⟨f, hf⟩ := h.st.cls _ (lk_mem hp)
    refine (know_some h.st hp hf hq).mono ?_
    rintro e w' ⟨rfl, hW, hF⟩
    exact ⟨_, _, _, rfl, h.turn hW (hF.mono fun _ x _ => .inr x) (h.kn.know h.st (lk_mem hp) hf hb) h.wf⟩

def WTellP (w0 w : World) (wp r : Nat) (t m : Int) (cr : Crew) (F : Nat → Prop) (e : Ending) (w' : World) : Prop :=
  ∃ v z M' F', e = .returned (.tuple #[v, .int .i64 z]) ∧ Turn w0 w w' wp r t m F cr M' F' ∧ ((v = .pointer none ∧ z ≠ 0) ∨ (z = 0 ∧ ∃ q fq, v = ptr q ∧ M' q = some fq ∧ Bel cr M' fq))
theorem wtell_any {w0 w wp r t m cr M F} (h : WS w0 w wp r t m cr M F) (g : Int) :
    Calls Try.prog 12 #[ptr wp, .int .i64 g] w (WTellP w0 w wp r t m cr F) := by
  cases hp : lk cr g with
  | none => exact (tell_none h.st hp).mono fun e w' ⟨e1, hs⟩ => ⟨_, _, M, F, e1, h.same hs, .inl ⟨rfl, by decide⟩⟩
  | some y =>
    obtain ⟨tid, c⟩ := y
    have hx := lk_mem hp
    obtain ⟨f, hf⟩ := h.st.cls _ hx
    have hr := h.st.rng _ hx
    simp only at hr
    obtain ⟨tn, rfl⟩ : ∃ n : Nat, tid = n := ⟨tid.toNat, by omega⟩
    by_cases hm : f tn < m
    · refine (tell_ok h.st hp hf hm).mono ?_
      rintro e w' ⟨q, rfl, hq, hW, hF⟩
      have hne := h.st.new_ne hq
      have hcq : c ≠ q := hne _ hx
      obtain ⟨k1, k2⟩ := h.kn.tick h.st hx hf
      have e0 : upd (upd M q (some f)) c (some (upd f tn (f tn + 1))) = upd (upd M c (some (upd f tn (f tn + 1)))) q (some f) := by
        funext p
        unfold upd
        by_cases e1 : p = c
        · rw [if_pos e1, if_neg (by rw [e1]; exact hcq), if_pos e1]
        · rw [if_neg e1]
          by_cases e2 : p = q
          · rw [if_pos e2, if_pos e2]
          · rw [if_neg e2, if_neg e2, if_neg e1]
      rw [e0] at hW
      exact ⟨_, _, _, _, rfl, h.turn hW (hF.mono fun _ x _ => .inr x) (k1.beside _ hne) h.wf, .inr ⟨rfl, q, f, rfl, upd_same _ _ _, k2.congr fun x hx => upd_ne _ _ (hne x hx)⟩⟩
    · refine (tell_full h.st hp hf (by rw [cg_nn (by omega)]; simpa using hm)).mono ?_
      rintro e w' ⟨rfl, hs⟩
      exact ⟨_, _, M, F, rfl, h.same hs, .inl ⟨rfl, by decide⟩⟩

def WRetP (w0 w : World) (wp r : Nat) (t m : Int) (cr : Crew) (F : Nat → Prop) (g : Int) (e : Ending) (w' : World) : Prop :=
  ∃ z M' F', e = .returned (.int .i64 z) ∧ (z = 0 ↔ lk cr g ≠ none) ∧ Turn w0 w w' wp r t m F (delC cr g) M' F'
theorem delC_none {cr : Crew} {g : Int} (h : lk cr g = none) : delC cr g = cr := by
  have hn := lk_none h
  clear h
  induction cr with
  | nil => rfl
  | cons x cr ih =>
    simp only [List.map_cons, List.mem_cons, not_or] at hn
    rw [delC, if_neg (by simpa using fun e => hn.1 e.symm), ih hn.2]
theorem wretire_any {w0 w wp r t m cr M F} (h : WS w0 w wp r t m cr M F) (g : Int) :
    Calls Try.prog 22 #[ptr wp, .int .i64 g] w (WRetP w0 w wp r t m cr F g) := by
  cases hp : lk cr g with
  | none =>
    refine (retire_none h.st hp).mono fun e w' ⟨e1, hs⟩ => ⟨_, M, F, e1, by simp [hp], ?_⟩
    rw [delC_none hp]
    exact h.same hs
  | some y =>
    obtain ⟨tid, c⟩ := y
    have hx := lk_mem hp
    have hr := h.st.rng _ hx
    simp only at hr
    obtain ⟨tn, rfl⟩ : ∃ n : Nat, tid = n := ⟨tid.toNat, by omega⟩
    refine (retire_ok h.st hp).mono ?_
    rintro e w' ⟨rfl, hW, hF⟩
    exact ⟨_, _, _, rfl, by simp [hp], h.turn hW hF (h.kn.retire h.st hx) fun x hx => h.wf x ((delC_mem h.st.keys x).1 hx).1⟩

/-- a member's clock, laid beside -/
def WClockP (w0 w : World) (wp r : Nat) (t m : Int) (cr : Crew) (M : Nat → Option (Nat → Int)) (F : Nat → Prop) (f : Nat → Int) (e : Ending) (w' : World) : Prop :=
  ∃ q F', e = .returned (.tuple #[ptr q, .bool true]) ∧ w.heap.size ≤ q ∧ Turn w0 w w' wp r t m F cr (upd M q (some f)) F'
theorem wclock_any {w0 w wp r t m cr M F} (h : WS w0 w wp r t m cr M F) {g tid : Int} {c : Nat} {f : Nat → Int} (hl : lk cr g = some (tid, c)) (hM : M c = some f) :
    Calls Try.prog 10 #[ptr wp, .int .i64 g] w (WClockP w0 w wp r t m cr M F f) := by
  refine (clock_some h.st hl hM).mono ?_
  rintro e w' ⟨q, rfl, hq, _, hW, hF⟩
  exact ⟨q, _, rfl, hq, h.turn hW (hF.mono fun _ x _ => .inr x) (h.kn.beside _ (h.st.new_ne hq)) h.wf⟩

/-- a new watch -/
theorem Kn.first (c : Nat) : Kn [(0, 0, c)] (upd NoM c (some one0)) := by
  intro y hy g hg
  simp at hy; subst hy
  rw [upd_same] at hg; cases hg
  refine ⟨fun x hx f hf j hj => ?_, fun j hj => ?_⟩
  · simp at hx; subst hx
    rw [upd_same] at hf; cases hf
    exact Int.le_refl _
  · have := hj (0, 0, c) (by simp)
    cases j with
    | zero => simp at this
    | succ j => simp [one0]
def WNewP (w : World) (t m : Int) (e : Ending) (w' : World) : Prop :=
  ∃ wp r cr M F, e = .returned (.tuple #[ptr wp, .int .i64 0]) ∧ WS w w' wp r t m cr M F ∧ cr.map (fun x => (x.1, x.2.1)) = [(0, 0)]
theorem wnew_any (w : World) {t m : Int} (ht : 1 ≤ t ∧ t ≤ 256) (hm : 1 ≤ m ∧ m ≤ 1048576) : Calls Try.prog 7 #[.int .i64 t, .int .i64 m] w (WNewP w t m) := by
  refine (new_ok w ht hm).mono ?_
  rintro e w' ⟨wp, r, c, F, rfl, hW, hF, hwp, hr, hFr⟩
  refine ⟨wp, r, _, _, F, rfl, ⟨hW, Kn.first c, fun x hx => ?_, ?_, hFr⟩, rfl⟩
  · simp at hx; subst hx; rfl
  · rintro b (rfl | rfl | hb)
    · exact hwp
    · exact hr
    · exact hF b hb
end Go.Proofs.Ytepdifajieegeaa
