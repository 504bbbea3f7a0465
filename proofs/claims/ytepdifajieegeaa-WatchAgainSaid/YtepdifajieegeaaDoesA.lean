/- does: a step that spawns, that retires, that does nothing. No condition. -/
import Derived.Test.YtepdifajieegeaaSysC
namespace Go.Proofs.Ytepdifajieegeaa
open Go.RowKit

def DoesP (w0 : World) (wp r xp : Nat) (t m : Int) (e : Ending) (w' : World) : Prop :=
  (∃ b, e = .returned (.bool b)) ∧ ∃ cr M F L G, Duo w0 w' wp r xp t m cr M F L G ∧ L.Perm (crL cr)
abbrev stepV (a g k : Int) (c : Value) : Value := .agg #[.int .i64 a, .int .i64 g, .int .i64 k, c]

set_option maxRecDepth 100000 in
set_option maxHeartbeats 2000000 in
theorem does_none {w0 w wp r xp t m cr M F L G} (h : Duo w0 w wp r xp t m cr M F L G) (hp : L.Perm (crL cr)) {a : Int} (ha : a < 0 ∨ 5 < a) (g k : Int) (p : Option Addr) (n c : Nat) :
    Calls Try.prog 19 #[ptr wp, ptr xp, stepV a g k (.slice p n c)] w (DoesP w0 wp r xp t m) := by
  have H := hid h
  have HP := hid hp
  have a0 : (a == 0) = false := by simp; omega
  have a1 : (a == 1) = false := by simp; omega
  have a2 : (a == 2) = false := by simp; omega
  have a3 : (a == 3) = false := by simp; omega
  have a4 : (a == 4) = false := by simp; omega
  have a5 : (a == 5) = false := by simp; omega
  clear h hp ha
  go_enter Try.func19, Try.ntmps19
  go_wp2_with fail
  go_ret
  exact ⟨⟨_, rfl⟩, cr, M, F, L, G, H.out.sil ((Fr.refl _ _).alloc _), HP.out⟩

set_option maxRecDepth 100000 in
set_option maxHeartbeats 2000000 in
theorem does_spawn {w0 w wp r xp t m cr M F L G} (h : Duo w0 w wp r xp t m cr M F L G) (hp : L.Perm (crL cr)) {a : Int} (ha : a = 0 ∨ a = 1) (g : Int) {k : Int} (hk : (Lit.int .i64 k).wf = true) (p : Option Addr) (n c : Nat) :
    Calls Try.prog 19 #[ptr wp, ptr xp, stepV a g k (.slice p n c)] w (DoesP w0 wp r xp t m) := by
  have h0 := h.sil ((Fr.refl (fun _ => False) w).alloc (.cells #[.int .i64 a, .int .i64 g, .int .i64 k, .slice p n c] 47))
  have H0 := hid h0
  have HP := hid hp
  have HK := hid hk
  have hb : (w.alloc (.cells #[.int .i64 a, .int .i64 g, .int .i64 k, .slice p n c] 47)).heap[w.heap.size]? = some (.cells #[.int .i64 a, .int .i64 g, .int .i64 k, .slice p n c] 47 (0, 0)) := heap_alloc_new _ _
  have HN := hid (show ¬ (w.heap.size = r ∨ F w.heap.size) from fun e => by
    have := h.ws.st.lt w.heap.size (by rcases e with e | e; exact .inr (.inl e); exact .inr (.inr e))
    omega)
  have HB := hid hb
  clear h0 hp h hk hb
  rcases ha with rfl | rfl
  all_goals
    go_enter Try.func19, Try.ntmps19
    have cW := wspawn_any H0.out.ws g HK.out
    go_upto_region 5 with (go_at_call 9; refine cW.mono ?_; rintro e w1 ⟨a1, b1, cr', M', F', rfl, hC, hT⟩)
    have e1 := (hT.fr.keep _ (heap_lt HB.out) HN.out).trans HB.out
    have d1 : w1.cell? ⟨w.heap.size, 1, none⟩ = some (.int .i64 g) := by simpa using cell_blk e1 1
    have d2 : w1.cell? ⟨w.heap.size, 2, none⟩ = some (.int .i64 k) := by simpa using cell_blk e1 2
    have H1 := hid (H0.out.wturn hT)
    have HC := hid hC
    have HL := hid (H0.out.len HP.out)
    have HT := hid H0.out.ws.st.tb
    clear hT hC e1 cW
    have cX := rspawn_any H1.out.rt HT.out.2 (by have := HL.out; omega) g k
    go_wp2_with (go_at_call 35; refine cX.mono ?_; rintro e w2 ⟨⟨a2, b2, rfl⟩, L', hL', hR, hF⟩; have H2 := hid (H1.out.xturn hR hF); have HP2 := hid (perm_spawn H0.out.ws.st HP.out HC.out hL'); clear hR hF hL' cX)
    all_goals
      go_ret
      exact ⟨⟨_, rfl⟩, _, _, _, _, _, H2.out, HP2.out⟩

set_option maxRecDepth 100000 in
set_option maxHeartbeats 2000000 in
theorem does_retire {w0 w wp r xp t m cr M F L G} (h : Duo w0 w wp r xp t m cr M F L G) (hp : L.Perm (crL cr)) (g k : Int) (p : Option Addr) (n c : Nat) :
    Calls Try.prog 19 #[ptr wp, ptr xp, stepV 5 g k (.slice p n c)] w (DoesP w0 wp r xp t m) := by
  have h0 := h.sil ((Fr.refl (fun _ => False) w).alloc (.cells #[.int .i64 5, .int .i64 g, .int .i64 k, .slice p n c] 47))
  have H0 := hid h0
  have HP := hid hp
  have hb : (w.alloc (.cells #[.int .i64 5, .int .i64 g, .int .i64 k, .slice p n c] 47)).heap[w.heap.size]? = some (.cells #[.int .i64 5, .int .i64 g, .int .i64 k, .slice p n c] 47 (0, 0)) := heap_alloc_new _ _
  have HN := hid (show ¬ (w.heap.size = r ∨ F w.heap.size) from fun e => by
    have := h.ws.st.lt w.heap.size (by rcases e with e | e; exact .inr (.inl e); exact .inr (.inr e))
    omega)
  have HNG := hid (show ¬ G w.heap.size from fun e => by have := h.fin _ e; omega)
  have HB := hid hb
  clear h0 hp h hb
  go_enter Try.func19, Try.ntmps19
  go_upto_region 19 with fail
  go_region_held3 (fun w' => w'.cell? ⟨w.heap.size, 1, none⟩ = some (.int .i64 g)) (first | assumption | go_keep) (first
    | (go_at_call 22; refine (wretire_any (H0.out.sil ((Fr.refl _ _).drew)).ws g).mono ?_; rintro e w1 ⟨z1, M', F', rfl, _, hT⟩; have e1 := (hT.fr.keep w.heap.size (by simp) HN.out).trans (show (World.drew _).heap[w.heap.size]? = _ from HB.out); have d1 : w1.cell? ⟨w.heap.size, 1, none⟩ = some (.int .i64 g) := (cell_blk e1 1).trans rfl; have H1 := hid ((H0.out.sil ((Fr.refl _ _).drew)).wturn hT); have HE1 := hid e1; clear hT e1)
    | (go_at_call 40; refine (rretire_any H1.out.rt g).mono ?_; rintro e w2 ⟨⟨z2, rfl⟩, hR, hF⟩; have d2 : w2.cell? ⟨w.heap.size, 1, none⟩ = some (.int .i64 g) := (cell_blk ((hF.keep _ (heap_lt HE1.out) HNG.out).trans HE1.out) 1).trans rfl; have H2 := hid (H1.out.xturn hR hF); clear hR hF))
  go_wp2_with fail
  go_ret
  exact ⟨⟨_, rfl⟩, _, _, _, _, _, H2.out, perm_retire H0.out.ws.st HP.out g⟩
end Go.Proofs.Ytepdifajieegeaa
