/- The watch: Retire. -/
import Derived.Test.YtepdifajieegeaaWatJ
namespace Go.Proofs.Ytepdifajieegeaa
open Go.RowKit

def RetPost (w : World) (wp r : Nat) (t m : Int) (cr : Crew) (M : Nat → Option (Nat → Int)) (F : Nat → Prop) (tid : Nat) (e : Ending) (w' : World) : Prop :=
  e = .returned (.int .i64 0) ∧ WSt w' wp r t m cr (retM M cr tid) (Gr F w w') ∧ Fr (fun b => b = r ∨ F b) w w'

theorem WSt.del {w w1 w2 wp r t m cr M F} (h : WSt w wp r t m cr M F) (hs : Fr (fun _ => False) w w1) (hO : Only r w1 w2) {g : Int} {es k} (hI : IMap w2 r (Go.Proofs.Ytepdifajieegeaa.del (crewL cr) g) es k) : WSt w2 wp r t m (delC cr g) M F := by
  have h1 := h.sil hs
  have hwr := h.wr
  have hsub := delC_sub cr g
  rw [del_crew] at hI
  exact ⟨h1.clk.keep (fun b hb => hO.block b (by rintro rfl; exact h.nr hb)) (by rw [hO.size]; exact Nat.le_refl _), (hO.block wp hwr).trans h1.hd, ⟨es, k, hI⟩, h.nw, h.nr,
    (hsub.map _).nodup h.keys, (hsub.map _).nodup h.tids, (hsub.map _).nodup h.ptrs, fun x hx => h.rng x (hsub.subset hx), fun x hx => h.cls x (hsub.subset hx), h.tb, h.mb⟩

set_option maxRecDepth 100000 in
set_option maxHeartbeats 400000 in
theorem retire_none {w wp r t m cr M F} (h : WSt w wp r t m cr M F) {g : Int} (hl : lk cr g = none) :
    Calls Try.prog 22 #[ptr wp, .int .i64 g] w (SilRet w (.int .i64 6)) := by
  have hO := of_none h hl
  clear h
  go_enter Try.func22, Try.ntmps22
  go_wp2_with (go_at_call 28; refine hO.mono ?_; rintro e w1 ⟨rfl, hs⟩; have HS := hid hs; clear hs)
  go_ret
  exact ⟨rfl, HS.out.alloc _⟩

set_option maxRecDepth 100000 in
set_option maxHeartbeats 800000 in
theorem retire_ok {w wp r t m cr M F} (h : WSt w wp r t m cr M F) {g : Int} {tid c : Nat} (hl : lk cr g = some ((tid : Int), c)) :
    Calls Try.prog 22 #[ptr wp, .int .i64 g] w (RetPost w wp r t m (delC cr g) M F tid) := by
  have hO := of_some h hl
  have H := hid h
  have c2 := h.c2
  have hwl : wp < w.heap.size := heap_lt h.hd
  have htid : tid < 256 := by
    have := h.rng _ (lk_mem hl)
    have := h.tb
    simp only at *; omega
  obtain ⟨es, k, hm⟩ := h.mp
  have hrl := heap_lt hm.hd
  have HM := hid hm
  have hwr := h.wr
  clear h hm
  go_enter Try.func22, Try.ntmps22
  go_upto_region 4 with (go_at_call 28; refine hO.mono ?_; rintro e w1 ⟨rfl, hs⟩; have HS := hid hs; have hsz := hs.size; clear hs)
  have c2' := (cell_same (((HS.out.alloc (.cells #[.int .i64 tid, ptr c] 60)).keep wp hwl (fun x => x))) 2).trans c2
  have hm1 := hid (HM.out.keep ((HS.out.alloc (.cells #[.int .i64 tid, ptr c] 60)).keep r hrl (fun x => x)))
  have HSa := hid (HS.out.alloc (.cells #[.int .i64 tid, ptr c] 60))
  have c50 : (w1.alloc (.cells #[.int .i64 tid, ptr c] 60)).cell? ⟨w1.heap.size, 0, none⟩ = some (.int .i64 tid) := World.cell?_alloc_at _ _ _ _ rfl
  have hsa : (w1.alloc (.cells #[.int .i64 tid, ptr c] 60)).heap.size = w1.heap.size + 1 := by simp
  generalize w1.alloc (.cells #[.int .i64 tid, ptr c] 60) = w1a at *
  obtain ⟨b5, hb5⟩ : ∃ b5, b5 = w1.heap.size := ⟨_, rfl⟩
  rw [← hb5] at c50 hsz hsa ⊢
  clear hO HM HS hb5
  go_upto_region 5 with (refine wpList_del (o := ⟨none, _, _, _, _, _⟩) _ rfl 61 3 60 (.tmp 20) (.tmp 21) rfl Try.underlying61 Try.underlying3 r (crewL cr) es k g rfl rfl hm1.out ?_; intro w2 es2 hO2 hI2)
  have HW2 := hid (H.out.del HSa.out hO2 hI2)
  have F2 := hid (hO2.fr (HSa.out.mono (G := fun b => b = r ∨ F b) (fun _ x => x.elim)) (.inl (.inl rfl)))
  have c22 := (hO2.cell (i := 2) hwr).trans c2'
  have c52 := (hO2.cell (p := b5) (i := 0) (by omega)).trans c50
  have hs2 := hO2.size
  rw [hsa] at hs2
  rw [del_crew] at hI2
  obtain ⟨hR, hI⟩ := run_range (P := Try.prog) hI2 Try.underlying61
  have HI := hid hI
  clear hI hI2 hO2 c2' c50 hsa hm1
  go_wp2_with fail
  generalize hcr : delC cr g = cr' at *
  have hR0 : Hid (RetR w wp r t m cr' M F tid w2.heap.size b5 (fun _ => false) (crewL cr').length (w2.alloc (.mapIter (some r) k #[] k)) F) := by
    have nlt : ∀ b, w.heap.size ≤ b → ¬ F b := fun b hb x => by have := H.out.clk.fin b x; omega
    refine ⟨by rw [retV_start]; exact HW2.out.alloc _, HI.out, nlt _ (by omega), nlt _ (by omega), fun b x => .inl x, F2.out.alloc _, ?_⟩
    rw [cell_same (heap_alloc_lt _ _ (by omega))]; exact c52
  obtain ⟨it, hit⟩ : ∃ it, it = b5 + 1 := ⟨_, rfl⟩
  rw [hs2, ← hit] at hR0
  rw [← hit]
  generalize w2.alloc (.mapIter (some r) k #[] k) = w3 at *
  have hitb : it ≠ b5 := by omega
  have hitr : it ≠ r := by omega
  have hitw : it ≠ wp := by omega
  have hitl : w.heap.size ≤ it := by omega
  clear HI hR HW2 F2 c22 c52 hs2 hit HSa c2
  go_loopw [8] (fun _ wr => ∃ vis c F', RetR w wp r t m cr' M F tid it b5 vis c wr F') (fun _ wr => mleft wr it r)
  case atStart => exact ⟨_, _, _, hR0.out⟩
  case round =>
    obtain ⟨vis, c', F', hR⟩ := hrel
    have HR := hid hR
    have HL := hid hR.it_.left
    clear hR hR0
    go_wp2_with (first | (at_next; refine wpList_next_crew _ rfl _ rfl it r cr' vis c' rfl HR.out.it_ hitr (fun _ hv => ?_) (fun j c1 w4 hj hvj hc hI4 hO4 hE4 => ?_); have HV := hid hv; clear hv; rotate_left; (have c54 := (hO4.cell (p := b5) (i := 0) (Ne.symm hitb)).trans HR.out.c5); (have hb54 : b5 < w4.heap.size := World.block_lt_of_cell? _ _ c54); have HI4 := hid hI4; have HO4 := hid hO4; clear hI4 hO4; rotate_right))
    · go_ret
      exact ⟨rfl, HR.out.done H.out.clk.fin hwl hrl H.out.nw H.out.nr HV.out⟩
    · obtain ⟨f, hf⟩ : ∃ f, M cr'[j].2.2 = some f := by
        subst hcr
        exact H.out.cls _ ((delC_sub cr g).subset (List.getElem_mem hj))
      have hn : (cr'.map (·.2.2)).Nodup := by
        subst hcr
        exact ((delC_sub cr g).map _).nodup H.out.ptrs
      have hf' := hid ((retV_at (M := M) (tid := tid) hn hj hvj).trans hf)
      have HF := hid hf
      clear hn hf
      refine (set_ok (HR.out.clk3 HO4.out _) hf'.out (t := tid) (n := 0) htid (by decide) (by decide)).mono ?_
      rintro e w6 ⟨rfl, hC6, hF6⟩
      have HC6 := hid hC6
      have HF6 := hid hF6
      clear hC6 hF6
      go_wp2_with fail
      have hst := HR.out.step hitb hitr hitw hitl hj hvj HF.out HI4.out HO4.out HC6.out HF6.out
      go_roundw
      case rel => exact ⟨_, _, _, hst⟩
      case measure => rw [hst.it_.left, HL.out]; exact hc
end Go.Proofs.Ytepdifajieegeaa
