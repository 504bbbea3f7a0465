/- The reference's watch: Know. No condition. -/
import Derived.Test.YtepdifajieegeaaRefF
namespace Go.Proofs.Ytepdifajieegeaa
open Go.RowKit

def RPost (w : World) (xp : Nat) (T M : Int) (L : List (Int × Int)) (G : Nat → Prop) (e : Ending) (w' : World) : Prop :=
  (∃ z, e = .returned (.int .i64 z)) ∧ RSt w' xp T M L G ∧ Fr G w w'

theorem RSt.there {w xp T M L G} (h : RSt w xp T M L G) {rb n cap k} (hc : w.cell? ⟨xp, 2, none⟩ = some (.slice (some ⟨rb, 0, none⟩) n cap)) (hk : k < L.length) : w.there rb (k * 258 + 2) 256 := by
  obtain ⟨rfl, cur, hh, hg, hne, r1, r2, r3, hx, hd⟩ := h.row hc
  intro j hj
  refine ⟨?_, froz_blk hh _⟩
  rw [cell_blk hh]
  rw [Array.getElem?_eq_getElem (by omega)]
  rfl

set_option maxRecDepth 100000 in
set_option maxHeartbeats 1000000 in
theorem rknow_any {w xp T M L G} (h : RSt w xp T M L G) (g : Int) {a : Array Value} (ha : CL a) : Calls Try.prog 37 #[ptr xp, .int .i64 g, .agg a] w (RPost w xp T M L G) := by
  have h0 := h.sil ((Fr.refl _ w).alloc (.cells a 72))
  have cA := rat_any h0 g
  rcases atL_spec g L 0 with ⟨h1, _⟩ | ⟨k, hk, h1, hg⟩
  · rw [h1] at cA
    have H0 := hid h0
    clear h0 ha
    go_enter Try.func37, Try.ntmps37
    go_wp2_with (go_at_call 21; refine cA.mono ?_; rintro e w1 ⟨rfl, hs⟩)
    go_ret
    exact ⟨⟨_, rfl⟩, H0.out.sil hs, (((Fr.refl (fun _ => False) w).alloc _).trans hs (fun _ x _ => x)).mono (fun _ x _ => x.elim)⟩
  · rw [h1] at cA
    simp only [Nat.zero_add] at cA
    obtain ⟨Z, hz, hzs, hi⟩ := zero72
    have hia : (Try.prog.info? 72).map (·.size) = some a.size := by rw [ha.1]; exact hi
    have HA := hid ha
    have H := hid h
    have H0 := hid h0
    clear h h1 h0 ha
    go_enter Try.func37, Try.ntmps37
    go_upto_region 4 with (go_at_call 21; refine cA.mono ?_; rintro e w1 ⟨rfl, hs⟩)
    have H1 := hid (H0.out.sil hs)
    have hp1 : w1.heap[w.heap.size]? = some (.cells a 72 (0, 0)) := (hs.keep _ (by simp) (fun x => x)).trans (heap_alloc_new _ _)
    have HS := hid (((Fr.refl (fun _ => False) w).alloc _).trans hs (fun _ x _ => x))
    clear hs cA
    obtain ⟨rb, cap, D, c2, R1, R3, hi', HZ⟩ := H1.out.clk hk hzs hi
    go_upto_region 5 with (first
      | (refine wpList_load_mid (op := ⟨some 21, _, _, _, _, _⟩) rfl 72 _ rfl rb (k * 258 + 2) rfl D _ R1.out Try.underlying72 rfl hi' ?_)
      | (refine wpList_store_new' (o := ⟨none, _, _, _, _, _⟩) rfl 72 _ _ rfl w1 Z D.toArray rfl rfl (by simpa using hi') HZ.out R3.out.one ?_; intro w2 e2))
    have HC := hid (show CB w2 w1.heap.size by rw [e2.out]; exact CB.alloc_new R3.out)
    have hs2 : Fr (fun _ => False) w1 w2 := by rw [e2.out]; exact (Fr.refl _ _).alloc _
    have H2 := hid (H1.out.sil hs2)
    have HS2 := hid (HS.out.trans hs2 (fun _ f _ => f))
    have hp2 := (hs2.keep _ (heap_lt hp1) (fun x => x)).trans hp1
    have hn : w.heap.size ≤ w1.heap.size := HS.out.size
    have HK2 := hid hs2
    clear c2 R1 R3 hi' HZ e2 hs2 hp1 HS
    go_upto_region 6 with (first
      | (refine wpList_load_row (o := ⟨some 22, _, _, _, _, _⟩) rfl 72 _ rfl w.heap.size rfl _ a (0, 0) _ hp2 Try.underlying72 rfl hia ?_)
      | (go_at_call 50; refine (rjoin_any HC.out HA.out).mono ?_; rintro e w3 ⟨⟨zz, rfl⟩, hC3, hF3⟩))
    have h3 : RSt w3 xp T M L G := H1.out.keep fun b _ hl => (hF3.keep b (Nat.lt_of_lt_of_le hl HK2.out.size) (by show ¬ b = w1.heap.size; omega)).trans (HK2.out.keep b hl (fun x => x))
    obtain ⟨rb', cap', E', R⟩ := h3.at_ hk rfl
    have c2' := R.c2
    have ht := hid (h3.there c2' hk)
    obtain ⟨arr, hb3, hc3⟩ := hC3
    have hC3 := hid (show CL arr from hc3)
    have hF : Fr G w w3 := by
      refine (HS2.out.trans (G := fun b => b = w1.heap.size) hF3 ?_).mono (fun _ x _ => x.elim)
      intro b e hl
      omega
    have HF := hid hF
    have H3 := hid h3
    have his : (Try.prog.info? 72).map (·.size) = some arr.toList.length := by rw [show arr.toList.length = 256 from by simpa using hC3.out.1]; exact hi
    have hr3 := World.rangeAt_of_block hb3 0 256
    have hx3 : (arr.extract 0 (0 + 256)).toList = arr.toList := by have := hC3.out.1; simp [← this]
    rw [hx3] at hr3
    have HR3 := hid hr3
    clear R h3 hc3 hF hF3 hb3 hr3 hx3 H1 HS2 HK2 H2 HC hp2
    have hia' : (Try.prog.info? 72).map (·.size) = some arr.toList.toArray.size := by simpa using his
    have hone : arr.toList.toArray.all (·.oneCell') = true := by simpa using hC3.out.one
    have ht' : Hid (w3.there rb' (k * 258 + 2) arr.toList.toArray.size) := by rw [show arr.toList.toArray.size = 256 from by simpa using hC3.out.1]; exact ht
    have HO := hid hone
    clear hone
    go_still_tail 8, (by kernel_rfl)
    refine wpStill_load_mid (op := ⟨some 29, _, _, _, _, _⟩) rfl 72 _ rfl w1.heap.size 0 rfl arr.toList _ HR3.out rfl Try.underlying72 rfl his ?_
    repeat still_step
    refine wpStill_nil ?_
    go_wp2_with (refine wpList_store_mid (op := ⟨none, _, _, _, _, _⟩) rfl 72 _ _ rfl rb' (k * 258 + 2) arr.toList.toArray rfl rfl ht'.out hia' HO.out ?_)
    go_ret
    refine ⟨⟨_, rfl⟩, ?_, ?_⟩
    · exact RSt.setClk (H3.out.sil ((Fr.refl _ _).drew)) c2' hk (by simpa using hC3.out)
    · exact Fr.setCells (.inl (H3.out.row c2').2.choose_spec.2.1) _ _ _ (HF.out.drew)
end Go.Proofs.Ytepdifajieegeaa
