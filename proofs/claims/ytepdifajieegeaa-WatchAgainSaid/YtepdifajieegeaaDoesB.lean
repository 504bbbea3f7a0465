/- does: a step that tells. No condition. -/
import Derived.Test.YtepdifajieegeaaDoesA
namespace Go.Proofs.Ytepdifajieegeaa
open Go.RowKit

/-- what the last region's loads read -/
def TlS (b5 c17 : Nat) (k : Int) (a : List Value) (w' : World) : Prop := w'.cell? ⟨b5, 2, none⟩ = some (.int .i64 k) ∧ w'.rangeAt c17 0 a

theorem unwanted {b : Bool} {A B : Prop} (h : b = false) (hB : B) : if b = true then A else B := by
  subst h; exact hB
theorem TlS.of {w : World} {b5 c17 : Nat} {a g k : Int} {v : Value} {l : List Value} (h : w.heap[b5]? = some (.cells #[.int .i64 a, .int .i64 g, .int .i64 k, v] 47 (0, 0))) (hr : w.rangeAt c17 0 l) : TlS b5 c17 k l w :=
  ⟨(cell_blk h 2).trans rfl, hr⟩
theorem TlS.sil {w w' : World} {b5 c17 : Nat} {a g k : Int} {v : Value} {l : List Value} (h : w.heap[b5]? = some (.cells #[.int .i64 a, .int .i64 g, .int .i64 k, v] 47 (0, 0))) (hr : w.rangeAt c17 0 l) (hs : Fr (fun _ => False) w w') (hl : c17 < w.heap.size) : TlS b5 c17 k l w' :=
  TlS.of ((hs.keep _ (heap_lt h) (fun x => x)).trans h) (range_keep hr (hs.keep _ hl (fun x => x)))
theorem clst_len (f : Nat → Int) : (clst f).length ≤ 1000000000 := by
  have := clnB_le f 256
  unfold clst; simp; omega

set_option maxRecDepth 100000 in
set_option maxHeartbeats 4000000 in
theorem does_tell {w0 w wp r xp t m cr M F L G} (h : Duo w0 w wp r xp t m cr M F L G) (hp : L.Perm (crL cr)) {a : Int} (ha : a = 3 ∨ a = 4) (g k : Int) (p : Option Addr) (n c : Nat) :
    Calls Try.prog 19 #[ptr wp, ptr xp, stepV a g k (.slice p n c)] w (DoesP w0 wp r xp t m) := by
  have h0 := h.sil ((Fr.refl (fun _ => False) w).alloc (.cells #[.int .i64 a, .int .i64 g, .int .i64 k, .slice p n c] 47))
  have H0 := hid h0
  have HP := hid hp
  have hb : (w.alloc (.cells #[.int .i64 a, .int .i64 g, .int .i64 k, .slice p n c] 47)).heap[w.heap.size]? = some (.cells #[.int .i64 a, .int .i64 g, .int .i64 k, .slice p n c] 47 (0, 0)) := heap_alloc_new _ _
  have HN := hid (show ¬ (w.heap.size = r ∨ F w.heap.size) from fun e => by
    have := h.ws.st.lt w.heap.size (by rcases e with e | e; exact .inr (.inl e); exact .inr (.inr e))
    omega)
  have HNG := hid (show ¬ G w.heap.size from fun e => by have := h.fin _ e; omega)
  have HB := hid hb
  obtain ⟨Z, hz, hzs, hi⟩ := zero72
  clear h0 hp h hb
  rcases ha with rfl | rfl
  all_goals
    go_enter Try.func19, Try.ntmps19
    have cW := wtell_any H0.out.ws g
    go_upto_region 14 with (go_at_call 12; refine cW.mono ?_; rintro e w1 ⟨v, z, M', F', rfl, hT, hv⟩)
    have e1 := (hT.fr.keep _ (heap_lt HB.out) HN.out).trans HB.out
    have d1 : w1.cell? ⟨w.heap.size, 1, none⟩ = some (.int .i64 g) := (cell_blk e1 1).trans rfl
    have H1 := hid (H0.out.wturn hT)
    have HV := hid hv
    have HSB := hid hT.sub
    have HE1 := hid e1
    clear hT cW hv e1
    have cX := rtell_any H1.out.rt g
    go_upto_region 15 with (first
      | (go_at_call 38; refine cX.mono ?_; rintro e w2 ⟨⟨A, z2, rfl, hA⟩, hR, hF⟩; have H2 := hid (H1.out.xturn' hR hF); have HA := hid hA; have HE2 := hid ((hF.keep _ (heap_lt HE1.out) HNG.out).trans HE1.out); have hiA : (Try.prog.info? 72).map (·.size) = some A.size := (by rw [hA.1]; exact hi); clear hR hF hA cX)
      | (refine wpList_store_new' (o := ⟨none, _, _, _, _, _⟩) rfl 72 _ _ rfl w2 Z A rfl rfl hiA (by rw [hzs.1, HA.out.1]) HA.out.one ?_; intro w3 e3))
    have HC3 := hid (show CB w3 w2.heap.size by rw [e3.out]; exact CB.alloc_new HA.out)
    have HS3 := hid (show Fr (fun _ => False) w2 w3 by rw [e3.out]; exact (Fr.refl _ _).alloc _)
    have H3 := hid (H2.out.sil HS3.out)
    have HE3 := hid ((HS3.out.keep _ (heap_lt HE2.out) (fun x => x)).trans HE2.out)
    have hR3 : w3.rangeAt w2.heap.size 0 A.toList := by
      have hr := World.rangeAt_of_block (show w3.heap[w2.heap.size]? = some (.cells A 72 (0, 0)) by rw [e3.out]; exact heap_alloc_new _ _) 0 256
      have hx : (A.extract 0 (0 + 256)).toList = A.toList := by have := HA.out.1; simp [← this]
      rwa [hx] at hr
    have HN3 := hid (show ¬ (w2.heap.size = r ∨ F' w2.heap.size) from fun e => by
      have := H2.out.ws.st.lt w2.heap.size (by rcases e with e | e; exact .inr (.inl e); exact .inr (.inr e))
      omega)
    have HNG3 := hid (show ¬ Gr G w1 w2 w2.heap.size from fun e => by have := H2.out.fin _ e; omega)
    have HR3 := hid hR3
    have HN5 := hid (show ¬ (w.heap.size = r ∨ F' w.heap.size) from fun e => by
      rcases e with e | e
      · exact HN.out (.inl e)
      · rcases HSB.out _ e with x | x
        · exact HN.out (.inr x)
        · simp at x; omega)
    have hs1 := heap_lt HE1.out
    have HNG5 := hid (show ¬ Gr G w1 w2 w.heap.size from fun e => by
      rcases e with e | e
      · exact HNG.out e
      · omega)
    clear e3 hR3 d1 hs1 HSB
    by_cases hzz : z = z2
    · subst hzz
      rcases HV.out with ⟨rfl, hz0⟩ | ⟨rfl, q, fq, rfl, hq, hbq⟩
      · have hzb : (z == 0) = false := by simpa using hz0
        have hzn : (z != 0) = true := by simpa using hz0
        clear hz0
        go_upto_region 17 with fail
        go_quiet (fail)
        go_wp2_with fail
        go_ret
        exact ⟨⟨_, rfl⟩, _, _, _, _, _, H3.out.sil (Fr.drewN (Fr.refl _ _) _), HP.out⟩
      · have HQ := hid hq
        have HBQ := hid hbq
        have HCL := hid (clst_len fq)
        clear hq hbq
        go_upto_region 17 with fail
        refine wp_region_noPanic ?_
        refine wp_region_held_drew (S := TlS w.heap.size w2.heap.size k A.toList) (by kernel_rfl) (TlS.of HE3.out HR3.out) (fun hHeld => ?_)
        refine wpAnyH_take (i := 0) (v := .int .i64 0) rfl (by kernel_rfl) (by kernel_rfl) (by kernel_rfl) (fun _ _ _ h => h) (Or.inl ⟨by rfl, fun w hSw => by clear hSw; go_simp⟩) hHeld ?_
        try simp only [Act.put, List.getElem_toArray, List.getElem_cons_zero, List.setIfInBounds_toArray, List.set_cons_zero, List.set_cons_succ]
        refine wpAnyH_take (i := 1) (v := .bool false) rfl (by kernel_rfl) (by kernel_rfl) (by kernel_rfl) (fun _ _ _ h => h) (Or.inl ⟨by rfl, fun w hSw => by clear hSw; go_simp⟩) hHeld ?_
        try simp only [Act.put, List.getElem_toArray, List.getElem_cons_zero, List.getElem_cons_succ, List.setIfInBounds_toArray, List.set_cons_zero, List.set_cons_succ]
        refine wpAnyH_take (i := 2) (v := .bool false) rfl (by kernel_rfl) (by kernel_rfl) (by kernel_rfl) (fun _ _ _ h => h) (Or.inl ⟨by rfl, fun w hSw => by clear hSw; go_simp⟩) hHeld ?_
        try simp only [Act.put, List.getElem_toArray, List.getElem_cons_zero, List.getElem_cons_succ, List.setIfInBounds_toArray, List.set_cons_zero, List.set_cons_succ]
        refine wpAnyH_take (i := 3) (v := ptr q) rfl (by kernel_rfl) (by kernel_rfl) (by kernel_rfl) (fun _ _ _ h => h) (Or.inl ⟨by rfl, fun w hSw => by clear hSw; go_simp⟩) hHeld ?_
        try simp only [Act.put, List.getElem_toArray, List.getElem_cons_zero, List.getElem_cons_succ, List.setIfInBounds_toArray, List.set_cons_zero, List.set_cons_succ]
        refine wpAnyH_ready (rs := [4]) (by kernel_rfl) (by simp) (AllReadyH.cons rfl (fun K hK => ?_) AllReadyH.nil)
        rw [if_pos (by rfl)]
        go_simp
        go_at_call 16
        refine (list_any (H3.out.sil ((Fr.refl _ _).drew)).ws.st.clk HQ.out).mono ?_
        rintro e w4 ⟨v4, rfl, hI4, hs4⟩
        have HI4 := hid hI4
        have HS4 := hid (show Fr (fun _ => False) w3 w4 from ((Fr.refl _ w3).drew).trans hs4 (fun _ x => x.elim))
        clear hI4 hs4
        go_wp2_with fail
        refine hK.out _ _ (TlS.sil HE3.out HR3.out HS4.out HC3.out.lt) (fun hHeld4 => ?_)
        clear hK K hHeld
        try simp only [Act.put, List.getElem_toArray, List.getElem_cons_zero, List.getElem_cons_succ, List.setIfInBounds_toArray, List.set_cons_zero, List.set_cons_succ]
        refine wpAnyH_ready (rs := [5]) (by kernel_rfl) (by simp) (AllReadyH.cons rfl (fun K hK => ?_) AllReadyH.nil)
        rw [if_pos (by rfl)]
        go_simp
        go_at_call 39
        refine (rlist_any (HC3.out.keep (HS4.out.keep _ HC3.out.lt (fun x => x)))).mono ?_
        rintro e w5 ⟨v5, l5, rfl, hl5, hI5, hs5⟩
        have HI5 := hid hI5
        have HS5 := hid (HS4.out.trans hs5 (fun _ x => x.elim))
        have HI4' := hid (HI4.out.keep (fun b _ hb => hs5.keep b hb (fun x => x)))
        clear hI5 hs5 HI4
        go_wp2_with fail
        refine hK.out _ _ (TlS.sil HE3.out HR3.out HS5.out HC3.out.lt) (fun hHeld5 => ?_)
        clear hK K hHeld4
        try simp only [Act.put, List.getElem_toArray, List.getElem_cons_zero, List.getElem_cons_succ, List.setIfInBounds_toArray, List.set_cons_zero, List.set_cons_succ]
        refine wpAnyH_ready (rs := [6]) (by kernel_rfl) (by simp) (AllReadyH.cons rfl (fun K hK => ?_) AllReadyH.nil)
        rw [if_pos (by rfl)]
        go_simp
        go_at_call 15
        refine (ints_any HI4'.out HI5.out HCL.out (by omega)).mono ?_
        rintro e w6 ⟨rfl, hs6⟩
        have HS6 := hid (HS5.out.trans hs6 (fun _ x => x.elim))
        clear hs6 HI4' HI5
        go_wp2_with fail
        refine hK.out _ _ (TlS.sil HE3.out HR3.out HS6.out HC3.out.lt) (fun hHeld6 => ?_)
        clear hK K hHeld5
        try simp only [Act.put, List.getElem_toArray, List.getElem_cons_zero, List.getElem_cons_succ, List.setIfInBounds_toArray, List.set_cons_zero, List.set_cons_succ]
        generalize decide (clst fq = l5) = same
        refine wpAnyH_take (i := 7) (v := .bool same) rfl (by kernel_rfl) (by kernel_rfl) (by kernel_rfl) (fun _ _ _ h => h) (Or.inl ⟨by rfl, fun w hSw => by clear hSw; go_simp⟩) hHeld6 ?_
        try simp only [Act.put, List.getElem_toArray, List.getElem_cons_zero, List.getElem_cons_succ, List.setIfInBounds_toArray, List.set_cons_zero, List.set_cons_succ]
        have H6 := hid (H3.out.sil HS6.out)
        have HE6 := hid ((HS6.out.keep _ (heap_lt HE3.out) (fun x => x)).trans HE3.out)
        cases same
        · skip
          refine wpAnyH_take (i := 8) (v := undef) rfl (by kernel_rfl) (by kernel_rfl) (by kernel_rfl) (fun _ _ _ h => h) (Or.inr ⟨by rfl, rfl⟩) hHeld6 ?_
          try simp only [Act.put, List.getElem_toArray, List.getElem_cons_zero, List.getElem_cons_succ, List.setIfInBounds_toArray, List.set_cons_zero, List.set_cons_succ]
          refine wpAnyH_take (i := 9) (v := undef) rfl (by kernel_rfl) (by kernel_rfl) (by kernel_rfl) (fun _ _ _ h => h) (Or.inr ⟨by rfl, rfl⟩) hHeld6 ?_
          try simp only [Act.put, List.getElem_toArray, List.getElem_cons_zero, List.getElem_cons_succ, List.setIfInBounds_toArray, List.set_cons_zero, List.set_cons_succ]
          refine wpAnyH_take (i := 10) (v := undef) rfl (by kernel_rfl) (by kernel_rfl) (by kernel_rfl) (fun _ _ _ h => h) (Or.inr ⟨by rfl, rfl⟩) hHeld6 ?_
          try simp only [Act.put, List.getElem_toArray, List.getElem_cons_zero, List.getElem_cons_succ, List.setIfInBounds_toArray, List.set_cons_zero, List.set_cons_succ]
          refine wpAnyH_take (i := 11) (v := undef) rfl (by kernel_rfl) (by kernel_rfl) (by kernel_rfl) (fun _ _ _ h => h) (Or.inr ⟨by rfl, rfl⟩) hHeld6 ?_
          try simp only [Act.put, List.getElem_toArray, List.getElem_cons_zero, List.getElem_cons_succ, List.setIfInBounds_toArray, List.set_cons_zero, List.set_cons_succ]
          refine wpAnyH_take (i := 13) (v := undef) rfl (by kernel_rfl) (by kernel_rfl) (by kernel_rfl) (fun _ _ _ h => h) (Or.inr ⟨by rfl, rfl⟩) hHeld6 ?_
          try simp only [Act.put, List.getElem_toArray, List.getElem_cons_zero, List.getElem_cons_succ, List.setIfInBounds_toArray, List.set_cons_zero, List.set_cons_succ]
          refine wpAnyH_take (i := 14) (v := undef) rfl (by kernel_rfl) (by kernel_rfl) (by kernel_rfl) (fun _ _ _ h => h) (Or.inr ⟨by rfl, rfl⟩) hHeld6 ?_
          try simp only [Act.put, List.getElem_toArray, List.getElem_cons_zero, List.getElem_cons_succ, List.setIfInBounds_toArray, List.set_cons_zero, List.set_cons_succ]
          refine wpAnyH_take (i := 15) (v := undef) rfl (by kernel_rfl) (by kernel_rfl) (by kernel_rfl) (fun _ _ _ h => h) (Or.inr ⟨by rfl, rfl⟩) hHeld6 ?_
          try simp only [Act.put, List.getElem_toArray, List.getElem_cons_zero, List.getElem_cons_succ, List.setIfInBounds_toArray, List.set_cons_zero, List.set_cons_succ]
          refine wpAnyH_take (i := 16) (v := undef) rfl (by kernel_rfl) (by kernel_rfl) (by kernel_rfl) (fun _ _ _ h => h) (Or.inr ⟨by rfl, rfl⟩) hHeld6 ?_
          try simp only [Act.put, List.getElem_toArray, List.getElem_cons_zero, List.getElem_cons_succ, List.setIfInBounds_toArray, List.set_cons_zero, List.set_cons_succ]
          refine wpAnyH_ready (rs := [12]) (by kernel_rfl) (by simp) (AllReadyH.cons rfl (fun K hK => ?_) AllReadyH.nil)
          refine unwanted (by rfl) ?_
          refine hK.out _ _ hHeld6 (fun _ => ?_)
          clear hK K
          try simp only [Act.put, List.getElem_toArray, List.getElem_cons_zero, List.getElem_cons_succ, List.setIfInBounds_toArray, List.set_cons_zero, List.set_cons_succ]
          refine wpAnyH_ready (rs := [17]) (by kernel_rfl) (by simp) (AllReadyH.cons rfl (fun K hK => ?_) AllReadyH.nil)
          refine unwanted (by rfl) ?_
          refine hK.out _ _ hHeld6 (fun _ => ?_)
          clear hK K
          try simp only [Act.put, List.getElem_toArray, List.getElem_cons_zero, List.getElem_cons_succ, List.setIfInBounds_toArray, List.set_cons_zero, List.set_cons_succ]
          refine wpAnyH_take (i := 18) (v := undef) rfl (by kernel_rfl) (by kernel_rfl) (by kernel_rfl) (fun _ _ _ h => h) (Or.inr ⟨by rfl, rfl⟩) hHeld6 ?_
          try simp only [Act.put, List.getElem_toArray, List.getElem_cons_zero, List.getElem_cons_succ, List.setIfInBounds_toArray, List.set_cons_zero, List.set_cons_succ]
          refine wpAnyH_take (i := 19) (v := .bool false) rfl (by kernel_rfl) (by kernel_rfl) (by kernel_rfl) (fun _ _ _ h => h) (Or.inl ⟨by rfl, fun w hSw => by clear hSw; go_simp⟩) hHeld6 ?_
          try simp only [Act.put, List.getElem_toArray, List.getElem_cons_zero, List.getElem_cons_succ, List.setIfInBounds_toArray, List.set_cons_zero, List.set_cons_succ]
          refine wpAnyH_take (i := 20) (v := .bool false) rfl (by kernel_rfl) (by kernel_rfl) (by kernel_rfl) (fun _ _ _ h => h) (Or.inl ⟨by rfl, fun w hSw => by clear hSw; go_simp⟩) hHeld6 ?_
          try simp only [Act.put, List.getElem_toArray, List.getElem_cons_zero, List.getElem_cons_succ, List.setIfInBounds_toArray, List.set_cons_zero, List.set_cons_succ]
          refine wpAnyH_take (i := 21) (v := .bool false) rfl (by kernel_rfl) (by kernel_rfl) (by kernel_rfl) (fun _ _ _ h => h) (Or.inl ⟨by rfl, fun w hSw => by clear hSw; go_simp⟩) hHeld6 ?_
          try simp only [Act.put, List.getElem_toArray, List.getElem_cons_zero, List.getElem_cons_succ, List.setIfInBounds_toArray, List.set_cons_zero, List.set_cons_succ]
          refine wpAnyH_done (by kernel_rfl) (NoPanic.normal ?_) _
          go_wp2_with fail
          go_ret
          exact ⟨⟨_, rfl⟩, _, _, _, _, _, H6.out, HP.out⟩
        · skip
          refine wpAnyH_take (i := 8) (v := ptr wp) rfl (by kernel_rfl) (by kernel_rfl) (by kernel_rfl) (fun _ _ _ h => h) (Or.inl ⟨by rfl, fun w hSw => by clear hSw; go_simp⟩) hHeld6 ?_
          try simp only [Act.put, List.getElem_toArray, List.getElem_cons_zero, List.getElem_cons_succ, List.setIfInBounds_toArray, List.set_cons_zero, List.set_cons_succ]
          refine wpAnyH_take (i := 9) (v := .pointer (some ⟨w.heap.size, 2, none⟩)) rfl (by kernel_rfl) (by kernel_rfl) (by kernel_rfl) (fun _ _ _ h => h) (Or.inl ⟨by rfl, fun w hSw => by clear hSw; go_simp⟩) hHeld6 ?_
          try simp only [Act.put, List.getElem_toArray, List.getElem_cons_zero, List.getElem_cons_succ, List.setIfInBounds_toArray, List.set_cons_zero, List.set_cons_succ]
          refine wpAnyH_take (i := 10) (v := .int .i64 k) rfl (by kernel_rfl) (by kernel_rfl) (by kernel_rfl) (fun _ _ _ h => h) (Or.inl ⟨by rfl, fun w hSw => by have hSw1 := hSw.1; clear hSw; go_simp⟩) hHeld6 ?_
          try simp only [Act.put, List.getElem_toArray, List.getElem_cons_zero, List.getElem_cons_succ, List.setIfInBounds_toArray, List.set_cons_zero, List.set_cons_succ]
          refine wpAnyH_take (i := 11) (v := ptr q) rfl (by kernel_rfl) (by kernel_rfl) (by kernel_rfl) (fun _ _ _ h => h) (Or.inl ⟨by rfl, fun w hSw => by clear hSw; go_simp⟩) hHeld6 ?_
          try simp only [Act.put, List.getElem_toArray, List.getElem_cons_zero, List.getElem_cons_succ, List.setIfInBounds_toArray, List.set_cons_zero, List.set_cons_succ]
          refine wpAnyH_take (i := 13) (v := ptr xp) rfl (by kernel_rfl) (by kernel_rfl) (by kernel_rfl) (fun _ _ _ h => h) (Or.inl ⟨by rfl, fun w hSw => by clear hSw; go_simp⟩) hHeld6 ?_
          try simp only [Act.put, List.getElem_toArray, List.getElem_cons_zero, List.getElem_cons_succ, List.setIfInBounds_toArray, List.set_cons_zero, List.set_cons_succ]
          refine wpAnyH_take (i := 14) (v := .pointer (some ⟨w.heap.size, 2, none⟩)) rfl (by kernel_rfl) (by kernel_rfl) (by kernel_rfl) (fun _ _ _ h => h) (Or.inl ⟨by rfl, fun w hSw => by clear hSw; go_simp⟩) hHeld6 ?_
          try simp only [Act.put, List.getElem_toArray, List.getElem_cons_zero, List.getElem_cons_succ, List.setIfInBounds_toArray, List.set_cons_zero, List.set_cons_succ]
          refine wpAnyH_take (i := 15) (v := .int .i64 k) rfl (by kernel_rfl) (by kernel_rfl) (by kernel_rfl) (fun _ _ _ h => h) (Or.inl ⟨by rfl, fun w hSw => by have hSw1 := hSw.1; clear hSw; go_simp⟩) hHeld6 ?_
          try simp only [Act.put, List.getElem_toArray, List.getElem_cons_zero, List.getElem_cons_succ, List.setIfInBounds_toArray, List.set_cons_zero, List.set_cons_succ]
          refine wpAnyH_take (i := 16) (v := .agg A.toList.toArray) rfl (by kernel_rfl) (by kernel_rfl) (by kernel_rfl) (fun _ _ _ h => h) (yieldsIf_load_mid (by rfl) _ _ rfl _ _ rfl _ _ (fun w hSw => hSw.2) Try.underlying72 rfl (by simpa using hiA)) hHeld6 ?_
          try simp only [Act.put, List.getElem_toArray, List.getElem_cons_zero, List.getElem_cons_succ, List.setIfInBounds_toArray, List.set_cons_zero, List.set_cons_succ]
          refine wpAnyH_ready (rs := [12]) (by kernel_rfl) (by simp) (AllReadyH.cons rfl (fun K hK => ?_) AllReadyH.nil)
          rw [if_pos (by rfl)]
          go_simp
          go_at_call 14
          refine (wknow_any H6.out.ws k HQ.out HBQ.out).mono ?_
          rintro e w7 ⟨z7, M7, F7, rfl, hT7⟩
          have e7 := (hT7.fr.keep _ (heap_lt HE6.out) HN5.out).trans HE6.out
          have r7 := range_keep hHeld6.2 (hT7.fr.keep _ (Nat.lt_of_lt_of_le HC3.out.lt HS6.out.size) HN3.out)
          have H7 := hid (H6.out.wturn hT7)
          have HE7 := hid e7
          have HR7 := hid r7
          have h7s := hT7.fr.size
          clear hT7 e7 r7
          go_wp2_with fail
          refine hK.out _ _ (TlS.of HE7.out HR7.out) (fun hHeld7 => ?_)
          clear hK K hHeld6
          try simp only [Act.put, List.getElem_toArray, List.getElem_cons_zero, List.getElem_cons_succ, List.setIfInBounds_toArray, List.set_cons_zero, List.set_cons_succ]
          refine wpAnyH_ready (rs := [17]) (by kernel_rfl) (by simp) (AllReadyH.cons rfl (fun K hK => ?_) AllReadyH.nil)
          rw [if_pos (by rfl)]
          go_simp
          go_at_call 37
          refine (rknow_any H7.out.rt k (a := A.toList.toArray) (by simpa using HA.out)).mono ?_
          rintro e w8 ⟨⟨z8, rfl⟩, hR8, hF8⟩
          have e8 := (hF8.keep _ (heap_lt HE7.out) HNG5.out).trans HE7.out
          have r8 := range_keep HR7.out (hF8.keep _ (Nat.lt_of_lt_of_le (Nat.lt_of_lt_of_le HC3.out.lt HS6.out.size) h7s) HNG3.out)
          have H8 := hid (H7.out.xturn' hR8 hF8)
          have HE8 := hid e8
          have HR8 := hid r8
          clear hR8 hF8 e8 r8
          go_wp2_with fail
          refine hK.out _ _ (TlS.of HE8.out HR8.out) (fun hHeld8 => ?_)
          clear hK K hHeld7
          try simp only [Act.put, List.getElem_toArray, List.getElem_cons_zero, List.getElem_cons_succ, List.setIfInBounds_toArray, List.set_cons_zero, List.set_cons_succ]
          refine wpAnyH_take (i := 18) (v := .bool (z7 == z8)) rfl (by kernel_rfl) (by kernel_rfl) (by kernel_rfl) (fun _ _ _ h => h) (Or.inl ⟨by rfl, fun w hSw => by clear hSw; go_simp⟩) hHeld8 ?_
          try simp only [Act.put, List.getElem_toArray, List.getElem_cons_zero, List.getElem_cons_succ, List.setIfInBounds_toArray, List.set_cons_zero, List.set_cons_succ]
          generalize (z7 == z8) = b8
          refine wpAnyH_take (i := 19) (v := .bool b8) rfl (by kernel_rfl) (by kernel_rfl) (by kernel_rfl) (fun _ _ _ h => h) (Or.inl ⟨by rfl, fun w hSw => by clear hSw; go_simp⟩) hHeld8 ?_
          try simp only [Act.put, List.getElem_toArray, List.getElem_cons_zero, List.getElem_cons_succ, List.setIfInBounds_toArray, List.set_cons_zero, List.set_cons_succ]
          refine wpAnyH_take (i := 20) (v := .bool b8) rfl (by kernel_rfl) (by kernel_rfl) (by kernel_rfl) (fun _ _ _ h => h) (Or.inl ⟨by rfl, fun w hSw => by clear hSw; go_simp⟩) hHeld8 ?_
          try simp only [Act.put, List.getElem_toArray, List.getElem_cons_zero, List.getElem_cons_succ, List.setIfInBounds_toArray, List.set_cons_zero, List.set_cons_succ]
          refine wpAnyH_take (i := 21) (v := .bool b8) rfl (by kernel_rfl) (by kernel_rfl) (by kernel_rfl) (fun _ _ _ h => h) (Or.inl ⟨by rfl, fun w hSw => by clear hSw; go_simp⟩) hHeld8 ?_
          try simp only [Act.put, List.getElem_toArray, List.getElem_cons_zero, List.getElem_cons_succ, List.setIfInBounds_toArray, List.set_cons_zero, List.set_cons_succ]
          refine wpAnyH_done (by kernel_rfl) (NoPanic.normal ?_) _
          go_wp2_with fail
          go_ret
          exact ⟨⟨_, rfl⟩, _, _, _, _, _, H8.out, HP.out⟩
    · have hzb : (z == z2) = false := by simpa using hzz
      have hzn : (z != z2) = true := by simpa using hzz
      clear hzz
      go_wp2_with fail
      go_ret
      exact ⟨⟨_, rfl⟩, _, _, _, _, _, H3.out, HP.out⟩
end Go.Proofs.Ytepdifajieegeaa
