/- The reference's watch: Spawn. No condition. -/
import Derived.Test.YtepdifajieegeaaRefI
import Derived.Deep.RegionHeld3
namespace Go.Proofs.Ytepdifajieegeaa
open Go.RowKit

/-- what a spawn leaves -/
def SpawnL (L : List (Int × Int)) (T p g : Int) (L' : List (Int × Int)) : Prop :=
  (L' = L ∧ ((∀ x ∈ L, x.1 ≠ p) ∨ g < 0 ∨ (∃ x ∈ L, x.1 = g) ∨ ∀ j : Int, 0 ≤ j → j < T → ∃ x ∈ L, x.2 = j)) ∨
  ∃ t, L' = L ++ [(g, t)] ∧ (∃ x ∈ L, x.1 = p) ∧ 0 ≤ g ∧ (∀ x ∈ L, x.1 ≠ g) ∧ 0 ≤ t ∧ t < T ∧ (∀ x ∈ L, x.2 ≠ t) ∧ ∀ j : Int, 0 ≤ j → j < t → ∃ x ∈ L, x.2 = j
def SpawnP (w : World) (xp : Nat) (T M : Int) (L : List (Int × Int)) (G : Nat → Prop) (p g : Int) (e : Ending) (w' : World) : Prop :=
  (∃ a b, e = .returned (.tuple #[.int .i64 a, .int .i64 b])) ∧ ∃ L', SpawnL L T p g L' ∧ RSt w' xp T M L' (Gr G w w') ∧ Fr G w w'

theorem spawn_same {w w' xp T M L G p g a b} (h : RSt w xp T M L G) (hF : Fr (fun _ => False) w w') (hs : (∀ x ∈ L, x.1 ≠ p) ∨ g < 0 ∨ (∃ x ∈ L, x.1 = g) ∨ ∀ j : Int, 0 ≤ j → j < T → ∃ x ∈ L, x.2 = j) :
    SpawnP w xp T M L G p g (.returned (.tuple #[.int .i64 a, .int .i64 b])) w' :=
  ⟨⟨_, _, rfl⟩, L, .inl ⟨rfl, hs⟩, (h.sil hF).mono (fun _ x _ => .inl x), hF.mono (fun _ x _ => x.elim)⟩

theorem yieldsIf_build {P : Program} {ops : Array Oper} {S : World → Prop} {op : Oper} {a : Act} (hw : Region.wanted op (yielded ops a.tmps) = true) (t : TypeId) (parts : Array (Nat × Operand)) (ho : op.op = .build t parts)
    (cells : Array Value) (h : P.built t (parts.toList.map fun (i, x) => (i, a.eval x)) = some cells) : YieldsIf P ops S op (.agg cells) a :=
  .inl ⟨hw, fun w _ => by
    have h' : P.built t (parts.map fun (i, x) => (i, a.eval x)).toList = some cells := by rw [Array.toList_map]; exact h
    unfold execOp
    simp only [ho, Sem.run_bind, run_build w t _ cells h', Result.andThen_ok]
    rfl⟩
theorem wp_buildSlice' {P : Program} {o : Oper} {a : Act} {w : World} {K : Act → World → Prop} {Q : Exit → Act → World → Prop} (t e : TypeId) (len : Nat) (parts : Array (Nat × Operand)) (ho : o.op = .buildSlice t len parts)
    (cells : Array Value) (ie : TypeInfo) (z : Value)
    (hu : P.underlying t = some (.slice e)) (hie : P.info? e = some ie) (hz : ie.zero = some z) (hsmall : ¬ len * ie.size > 2 ^ 24) (hpos : ¬ len * ie.size = 0)
    (hf : Instr.fill (fun i => some (i * ie.size, ie.size)) ((Array.range (len * ie.size)).map (z.cells[· % z.cells.size]!)) (parts.toList.map fun (i, x) => (i, a.eval x)) = some cells)
    (h : K (a.put o.dst (.slice (some ⟨w.heap.size, 0, none⟩) len len)) (w.alloc (.cells cells e))) : o.wp P a w K Q :=
  wp_buildSlice t e len parts ho cells ie z hu hie hz hsmall hpos (by rw [Array.toList_map]; exact hf) h

/-- what the last region's loads read -/
def SpS (b : Nat) (arr : Array Value) (w' : World) : Prop := w'.rangeAt b 0 arr.toList

theorem rspawn_end {w w5 w7 : World} {xp : Nat} {T M : Int} {L : List (Int × Int)} {G : Nat → Prop} {g t : Int} {rb5 cap5 gg cap7 : Nat} {E : Array Value} {xs : List Value} {o : Obj} (hxp : G xp) (hF : Fr (fun _ => False) w w5) (hl : L.length ≤ 999)
    (HD : w5.heap[xp]? = some (.cells #[.int .i64 T, .int .i64 M, .slice (some ⟨rb5, 0, none⟩) L.length cap5] 78 (0, 0))) (HX : Ones xs L) (HB : G rb5 ∧ rb5 ≠ xp) (HE : OneV E g t)
    (hgrow : ((w5.drew).alloc o).grownBy w7 (some rb5)) (hown7 : w7.ownsRow 0 75 258 (.slice (some ⟨gg, 0, none⟩) (L.length + 1) cap7) (L.length + 1) (xs ++ E.toList)) (hat : some rb5 = some gg ∨ gg = w5.heap.size + 1) (hlt : gg < w7.heap.size) :
    RSt (w7.setCell ⟨xp, 2, none⟩ (.slice (some ⟨gg, 0, none⟩) (L.length + 1) cap7)) xp T M (L ++ [(g, t)]) (Gr G w (w7.setCell ⟨xp, 2, none⟩ (.slice (some ⟨gg, 0, none⟩) (L.length + 1) cap7))) ∧
    Fr G w (w7.setCell ⟨xp, 2, none⟩ (.slice (some ⟨gg, 0, none⟩) (L.length + 1) cap7)) := by
  have hx5 := heap_lt HD
  have hs := hF.size
  have hsg := hgrow.size
  have h5 : (w5.drew.alloc o).heap[xp]? = w5.heap[xp]? := heap_alloc_lt w5.drew o hx5
  have h7 := (hgrow.block xp (by simp; omega) (fun e => HB.2 (by cases e; rfl))).trans (h5.trans HD)
  have hne : gg ≠ xp := by
    rcases hat with e | e
    · cases e; exact HB.2
    · omega
  have hF7 : Fr G w w7 := by
    refine grown_fr hgrow ((((hF.mono (fun _ x _ => x.elim)) : Fr G w w5).drew).alloc o) (fun n e => ?_)
    cases e; exact .inl HB.1
  refine ⟨⟨⟨_, _, heap_setCell_eq h7 2 _, ?_, HX.snoc HE, fun b e => ?_⟩, .inl hxp, by simp; omega⟩, hF7.setCell (.inl hxp) _⟩
  · rw [List.length_append]
    exact ownsRow_blk hown7 fun b e _ => by cases e; exact heap_setCell_ne _ _ _ hne
  · cases e
    refine ⟨?_, hne⟩
    rcases hat with e | e
    · cases e; exact .inl HB.1
    · exact .inr ⟨by show w.heap.size ≤ gg; omega, by show gg < _; simp; omega⟩

set_option maxRecDepth 100000 in
set_option maxHeartbeats 4000000 in
theorem rspawn_any {w xp T M L G} (h : RSt w xp T M L G) (hT : T ≤ 256) (hl : L.length ≤ 999) (p g : Int) : Calls Try.prog 35 #[ptr xp, .int .i64 p, .int .i64 g] w (SpawnP w xp T M L G p g) := by
  have cA := rat_any h p
  have H := hid h
  rcases atL_spec p L 0 with ⟨h1, hN⟩ | ⟨k, hk, h1, hg⟩
  · rw [h1] at cA
    have HN := hid hN
    clear h hN h1
    go_enter Try.func35, Try.ntmps35
    go_wp2_with (go_at_call 21; refine cA.mono ?_; rintro e w1 ⟨rfl, hs⟩)
    go_ret2
    exact spawn_same H.out hs (.inl HN.out)
  · rw [h1] at cA
    simp only [Nat.zero_add] at cA
    have HP : Hid (∃ x ∈ L, x.1 = p) := hid ⟨L[k], List.getElem_mem hk, hg⟩
    clear h h1 hg
    by_cases h0 : g < 0
    · go_enter Try.func35, Try.ntmps35
      go_wp2_with (go_at_call 21; refine cA.mono ?_; rintro e w1 ⟨rfl, hs⟩)
      go_ret2
      exact spawn_same H.out hs (.inr (.inl h0))
    · rcases atL_spec g L 0 with ⟨h2, hN⟩ | ⟨k', hk', h2, hg'⟩
      · have HN := hid hN
        have H2 := hid h2
        clear hN h2
        go_enter Try.func35, Try.ntmps35
        go_upto_region 4 with (go_at_call 21; refine cA.mono ?_; rintro e w1 ⟨rfl, hs⟩)
        have H1 := hid (H.out.sil hs)
        have HS := hid hs
        clear hs cA
        have cG := rat_any H1.out g
        rw [H2.out] at cG
        go_upto_region 6 with (go_at_call 21; refine cG.mono ?_; rintro e w2 ⟨rfl, hs2⟩)
        have H3 := hid (H1.out.sil hs2)
        have HS2 := hid (HS.out.trans hs2 (fun _ f _ => f))
        clear hs2 cG H1 H2 HS
        have cF := rfree_any H3.out hT
        go_upto_region 7 with (go_at_call 49; refine cF.mono ?_; rintro e w3 ⟨⟨t, rfl, hf⟩, hs3⟩)
        have H4 := hid (H3.out.sil hs3)
        have HS3 := hid (HS2.out.trans hs3 (fun _ f _ => f))
        clear hs3 cF H3 HS2
        rcases hf with ⟨rfl, hf⟩ | ⟨f1, f2, f3, f4⟩
        · have HF := hid hf
          clear hf
          go_wp2_with fail
          go_ret2
          exact spawn_same H.out HS3.out (.inr (.inr (.inr HF.out)))
        · have HF3 := hid f3
          have HF4 := hid f4
          clear f3 f4
          obtain ⟨Z, hz, hzs, hi⟩ := zero72
          obtain ⟨rb, cap, D, c2, R1, R3, hi', HZ⟩ := H4.out.clk hk hzs hi
          have hiD : (Try.prog.info? 72).map (·.size) = some D.toArray.size := by simpa using hi'
          go_upto_region 10 with (first
            | (refine wpList_load_mid (op := ⟨some 35, _, _, _, _, _⟩) rfl 72 _ rfl rb (k * 258 + 2) rfl D _ R1.out Try.underlying72 rfl hi' ?_)
            | (refine wpList_store_new' (o := ⟨none, _, _, _, _, _⟩) rfl 72 _ _ rfl w3 Z D.toArray rfl rfl hiD HZ.out R3.out.one ?_; intro w4 e4))
          have HC4 := hid (show CB w4 w3.heap.size by rw [e4.out]; exact CB.alloc_new R3.out)
          have HS4 := hid (show Fr (fun _ => False) w3 w4 by rw [e4.out]; exact (Fr.refl _ _).alloc _)
          have H5 := hid (H4.out.sil HS4.out)
          have HS5 := hid (HS3.out.trans HS4.out (fun _ f _ => f))
          clear e4 R1 R3 c2 hi' HZ hiD
          have cS := rset_any HC4.out t 1
          go_upto_region 11 with (go_at_call 34; refine cS.mono ?_; rintro e w5 ⟨⟨zz, rfl⟩, hC5, hF5⟩)
          obtain ⟨arr4, hc4, _⟩ := HC4.out
          have H6 := hid (H5.out.blk72 hc4 hF5)
          have HF6 := hid (HS5.out.trans hF5 (fun b e hb => by have := HS3.out.size; omega))
          obtain ⟨arr, hb5, hc5'⟩ := hC5
          have hC5 : CL arr := hc5'
          obtain ⟨E, hE, hbd⟩ := one_built g t hC5
          have HE := hid hE
          obtain ⟨v, xs, hd, ho, hx, hb⟩ := H6.out.st
          obtain ⟨rb5, cap5, rfl, _, hlt5⟩ := ho.form (by omega)
          have hrbt : ∀ {arr : Array Value}, w5.heap[rb5]? = some (.cells arr 72 (0, 0)) → False := by
            intro a ha
            rcases ho.2 with ⟨e, _⟩ | ⟨g', cap', cur', e, _, hh, _⟩
            · cases e
            · cases e; rw [hh] at ha; cases ha
          have HO := hid ho
          have HX := hid hx
          have HB := hid (hb rb5 rfl)
          have HD := hid hd
          have his : (Try.prog.info? 72).map (·.size) = some arr.toList.length := by rw [show arr.toList.length = 256 from by simpa using hC5.1]; exact hi
          have hr5 := World.rangeAt_of_block hb5 0 256
          have hx5 : (arr.extract 0 (0 + 256)).toList = arr.toList := by have := hC5.1; simp [← this]
          rw [hx5] at hr5
          have hcx : w5.cell? ⟨xp, 2, none⟩ = some (.slice (some ⟨rb5, 0, none⟩) L.length cap5) := by simpa using cell_blk hd 2
          have hfx : w5.frozen? ⟨xp, 2, none⟩ = false := froz_blk hd 2
          have hu72 := Try.underlying72
          obtain ⟨i75, e75, z75, s75, b75⟩ := info75
          have hxl : xp < w5.heap.size := heap_lt hd
          have hbn : w3.heap.size ≠ rb5 ∧ w3.heap.size ≠ xp := ⟨(by rintro rfl; exact hrbt hb5), (by rintro rfl; rw [HD.out] at hb5; cases hb5)⟩
          have hbd : Try.prog.built 75 [(0, .int .i64 g), (1, .int .i64 t), (2, .agg arr.toList.toArray)] = some E := hbd
          have hb3 := heap_lt hb5
          clear hc4 hF5 hc5' hC5 hE ho hx hb hd hx5 HC4 HS4 H5 HS5 HS3 H4 hb5 hz hzs cS hrbt
          refine wp_region_noPanic ?_
          refine wp_region_held_drew (S := SpS w3.heap.size arr) (by kernel_rfl) hr5 (fun hHeld => ?_)
          refine wpAnyH_take (i := 0) (v := ptr xp) rfl (by kernel_rfl) (by kernel_rfl) (by kernel_rfl) (fun _ _ _ h => h) (Or.inl ⟨by rfl, fun w hSw => by clear hSw; go_simp⟩) hHeld ?_
          simp only [Act.put, List.getElem_toArray, List.getElem_cons_zero, List.setIfInBounds_toArray, List.set_cons_zero, List.set_cons_succ]
          refine wpAnyH_take (i := 1) (v := ptr xp) rfl (by kernel_rfl) (by kernel_rfl) (by kernel_rfl) (fun _ _ _ h => h) (Or.inl ⟨by rfl, fun w hSw => by clear hSw; go_simp⟩) hHeld ?_
          simp only [Act.put, List.getElem_toArray, List.getElem_cons_zero, List.getElem_cons_succ, List.setIfInBounds_toArray, List.set_cons_zero, List.set_cons_succ]
          refine wpAnyH_take (i := 2) (v := ptr xp) rfl (by kernel_rfl) (by kernel_rfl) (by kernel_rfl) (fun _ _ _ h => h) (Or.inl ⟨by rfl, fun w hSw => by clear hSw; go_simp⟩) hHeld ?_
          simp only [Act.put, List.getElem_toArray, List.getElem_cons_zero, List.getElem_cons_succ, List.setIfInBounds_toArray, List.set_cons_zero, List.set_cons_succ]
          refine wpAnyH_take (i := 3) (v := .pointer (some ⟨xp, 2, none⟩)) rfl (by kernel_rfl) (by kernel_rfl) (by kernel_rfl) (fun _ _ _ h => h) (Or.inl ⟨by rfl, fun w hSw => by clear hSw; go_simp⟩) hHeld ?_
          simp only [Act.put, List.getElem_toArray, List.getElem_cons_zero, List.getElem_cons_succ, List.setIfInBounds_toArray, List.set_cons_zero, List.set_cons_succ]
          refine wpAnyH_take (i := 5) (v := .int .i64 g) rfl (by kernel_rfl) (by kernel_rfl) (by kernel_rfl) (fun _ _ _ h => h) (Or.inl ⟨by rfl, fun w hSw => by clear hSw; go_simp⟩) hHeld ?_
          simp only [Act.put, List.getElem_toArray, List.getElem_cons_zero, List.getElem_cons_succ, List.setIfInBounds_toArray, List.set_cons_zero, List.set_cons_succ]
          refine wpAnyH_take (i := 6) (v := .int .i64 t) rfl (by kernel_rfl) (by kernel_rfl) (by kernel_rfl) (fun _ _ _ h => h) (Or.inl ⟨by rfl, fun w hSw => by clear hSw; go_simp⟩) hHeld ?_
          simp only [Act.put, List.getElem_toArray, List.getElem_cons_zero, List.getElem_cons_succ, List.setIfInBounds_toArray, List.set_cons_zero, List.set_cons_succ]
          refine wpAnyH_take (i := 7) (v := .agg arr.toList.toArray) rfl (by kernel_rfl) (by kernel_rfl) (by kernel_rfl) (fun _ _ _ h => h) (yieldsIf_load_mid (by rfl) _ _ rfl _ _ rfl _ _ (fun w hSw => hSw) hu72 rfl his) hHeld ?_
          simp only [Act.put, List.getElem_toArray, List.getElem_cons_zero, List.getElem_cons_succ, List.setIfInBounds_toArray, List.set_cons_zero, List.set_cons_succ]
          refine wpAnyH_take (i := 8) (v := .agg E) rfl (by kernel_rfl) (by kernel_rfl) (by kernel_rfl) (fun _ _ _ h => h) (yieldsIf_build (by rfl) _ _ rfl E hbd) hHeld ?_
          simp only [Act.put, List.getElem_toArray, List.getElem_cons_zero, List.getElem_cons_succ, List.setIfInBounds_toArray, List.set_cons_zero, List.set_cons_succ]
          refine wpAnyH_ready (rs := [4, 9]) (by kernel_rfl) (by simp) (AllReadyH.cons rfl (fun K hK => ?_) (AllReadyH.cons rfl (fun K hK => ?_) AllReadyH.nil))
          · go_simp
            refine hK.out _ _ hHeld (fun hHeld2 => ?_)
            clear hK K hHeld
            try simp only [Act.put, List.getElem_toArray, List.getElem_cons_zero, List.getElem_cons_succ, List.setIfInBounds_toArray, List.set_cons_zero, List.set_cons_succ]
            refine wpAnyH_ready (rs := [9]) (by kernel_rfl) (by simp) (AllReadyH.cons rfl (fun K hK => ?_) AllReadyH.nil)
            rw [if_pos (by rfl)]
            refine wp_buildSlice' _ _ 1 _ rfl E i75 _ Try.underlying76 e75 z75 (by rw [s75]; omega) (by rw [s75]; omega) (one_fill HE.out.size s75) ?_
            refine hK.out _ _ (World.rangeAt_alloc hHeld2 _) (fun hHeld3 => ?_)
            clear hK K hHeld2
            try simp only [Act.put, List.getElem_toArray, List.getElem_cons_zero, List.getElem_cons_succ, List.setIfInBounds_toArray, List.set_cons_zero, List.set_cons_succ]
            refine wpAnyH_ready (rs := [10]) (by kernel_rfl) (by simp) (AllReadyH.cons rfl (fun K hK => ?_) AllReadyH.nil)
            refine step_append_lies _ (by rfl) _ _ _ (by rfl) 0 75 i75 _ 258 2064 Try.underlying76 e75 z75 s75 b75 (by simp [Value.cells]) (by omega) _ L.length xs (by rfl) ((HO.out.drew).alloc _) ⟨w5.heap.size, 0, none⟩ 1 1 E.toList (by rfl) (by simp [HE.out.size]) (World.news_of_block (cs := E) (t := 75) (fr := (0, 0)) (heap_alloc_new w5.drew _)) (fun u hu => Array.all_eq_true_iff_forall_mem.1 (all_one (E := E.toList) (by simpa using HE.out.size) (by simpa using HE.out.all)) u (by simpa using hu)) (by omega) (by unfold maxLen; omega) (by omega) (by simp) (w5.heap.size + 1) (by simp) ?_
            intro gg cap7 w7 hown7 hgrow hat hlt
            have h7 := (hgrow.block xp (by simp; omega) (fun e => HB.out.2 (by cases e; rfl))).trans ((heap_alloc_lt w5.drew (.cells E 75) hxl).trans HD.out)
            have hf7 : w7.frozen? ⟨xp, 2, none⟩ = false := froz_blk h7 2
            have hc7 : w7.cell? ⟨xp, 2, none⟩ = some (.slice (some ⟨rb5, 0, none⟩) L.length cap5) := by simpa using cell_blk h7 2
            have hb7 := (hgrow.block w3.heap.size (by simp; omega) (fun e => hbn.1 (by cases e; rfl)))
            have hr7 : w7.rangeAt w3.heap.size 0 arr.toList := range_keep hHeld3 hb7
            have HEND := hid (rspawn_end H6.out.gx HF6.out hl HD.out HX.out HB.out HE.out hgrow hown7 hat hlt)
            clear h7 hb7 hown7 hgrow hat hlt
            refine hK.out _ _ hr7 (fun hHeld4 => ?_)
            clear hK K hHeld3
            try simp only [Act.put, List.getElem_toArray, List.getElem_cons_zero, List.getElem_cons_succ, List.setIfInBounds_toArray, List.set_cons_zero, List.set_cons_succ]
            refine wpAnyH_take (i := 11) (v := ptr xp) rfl (by kernel_rfl) (by kernel_rfl) (by kernel_rfl) (fun _ _ _ h => h) (Or.inl ⟨by rfl, fun w hSw => by clear hSw; go_simp⟩) hHeld4 ?_
            try simp only [Act.put, List.getElem_toArray, List.getElem_cons_zero, List.getElem_cons_succ, List.setIfInBounds_toArray, List.set_cons_zero, List.set_cons_succ]
            refine wpAnyH_take (i := 12) (v := .pointer (some ⟨xp, 2, none⟩)) rfl (by kernel_rfl) (by kernel_rfl) (by kernel_rfl) (fun _ _ _ h => h) (Or.inl ⟨by rfl, fun w hSw => by clear hSw; go_simp⟩) hHeld4 ?_
            try simp only [Act.put, List.getElem_toArray, List.getElem_cons_zero, List.getElem_cons_succ, List.setIfInBounds_toArray, List.set_cons_zero, List.set_cons_succ]
            refine wpAnyH_ready (rs := [13]) (by kernel_rfl) (by simp) (AllReadyH.cons rfl (fun K hK => ?_) AllReadyH.nil)
            go_simp
            refine hK.out _ _ (range_keep hHeld4 (heap_setCell_ne _ _ _ hbn.2)) (fun _ => ?_)
            clear hK K hHeld4 hr7
            try simp only [Act.put, List.getElem_toArray, List.getElem_cons_zero, List.getElem_cons_succ, List.setIfInBounds_toArray, List.set_cons_zero, List.set_cons_succ]
            refine wpAnyH_done (by kernel_rfl) (NoPanic.normal ?_) _
            go_wp2_with fail
            go_ret2
            exact ⟨⟨_, _, rfl⟩, _, .inr ⟨t, rfl, HP.out, h0, HN.out, f1, f2, HF3.out, HF4.out⟩, HEND.out.1, HEND.out.2⟩
          · rw [if_pos (by rfl)]
            refine wp_buildSlice' _ _ 1 _ rfl E i75 _ Try.underlying76 e75 z75 (by rw [s75]; omega) (by rw [s75]; omega) (one_fill HE.out.size s75) ?_
            refine hK.out _ _ (World.rangeAt_alloc hHeld _) (fun hHeld2 => ?_)
            clear hK K hHeld
            try simp only [Act.put, List.getElem_toArray, List.getElem_cons_zero, List.getElem_cons_succ, List.setIfInBounds_toArray, List.set_cons_zero, List.set_cons_succ]
            refine wpAnyH_ready (rs := [4]) (by kernel_rfl) (by simp) (AllReadyH.cons rfl (fun K hK => ?_) AllReadyH.nil)
            have hcx6 : (w5.drew.alloc (.cells E 75)).cell? ⟨xp, 2, none⟩ = some (.slice (some ⟨rb5, 0, none⟩) L.length cap5) := (cell_same (heap_alloc_lt w5.drew _ hxl) 2).trans hcx
            go_simp
            refine hK.out _ _ hHeld2 (fun hHeld3 => ?_)
            clear hK K hHeld2 hcx6
            try simp only [Act.put, List.getElem_toArray, List.getElem_cons_zero, List.getElem_cons_succ, List.setIfInBounds_toArray, List.set_cons_zero, List.set_cons_succ]
            refine wpAnyH_ready (rs := [10]) (by kernel_rfl) (by simp) (AllReadyH.cons rfl (fun K hK => ?_) AllReadyH.nil)
            refine step_append_lies _ (by rfl) _ _ _ (by rfl) 0 75 i75 _ 258 2064 Try.underlying76 e75 z75 s75 b75 (by simp [Value.cells]) (by omega) _ L.length xs (by rfl) ((HO.out.drew).alloc _) ⟨w5.heap.size, 0, none⟩ 1 1 E.toList (by rfl) (by simp [HE.out.size]) (World.news_of_block (cs := E) (t := 75) (fr := (0, 0)) (heap_alloc_new w5.drew _)) (fun u hu => Array.all_eq_true_iff_forall_mem.1 (all_one (E := E.toList) (by simpa using HE.out.size) (by simpa using HE.out.all)) u (by simpa using hu)) (by omega) (by unfold maxLen; omega) (by omega) (by simp) (w5.heap.size + 1) (by simp) ?_
            intro gg cap7 w7 hown7 hgrow hat hlt
            have h7 := (hgrow.block xp (by simp; omega) (fun e => HB.out.2 (by cases e; rfl))).trans ((heap_alloc_lt w5.drew (.cells E 75) hxl).trans HD.out)
            have hf7 : w7.frozen? ⟨xp, 2, none⟩ = false := froz_blk h7 2
            have hc7 : w7.cell? ⟨xp, 2, none⟩ = some (.slice (some ⟨rb5, 0, none⟩) L.length cap5) := by simpa using cell_blk h7 2
            have hb7 := (hgrow.block w3.heap.size (by simp; omega) (fun e => hbn.1 (by cases e; rfl)))
            have hr7 : w7.rangeAt w3.heap.size 0 arr.toList := range_keep hHeld3 hb7
            have HEND := hid (rspawn_end H6.out.gx HF6.out hl HD.out HX.out HB.out HE.out hgrow hown7 hat hlt)
            clear h7 hb7 hown7 hgrow hat hlt
            refine hK.out _ _ hr7 (fun hHeld4 => ?_)
            clear hK K hHeld3
            try simp only [Act.put, List.getElem_toArray, List.getElem_cons_zero, List.getElem_cons_succ, List.setIfInBounds_toArray, List.set_cons_zero, List.set_cons_succ]
            refine wpAnyH_take (i := 11) (v := ptr xp) rfl (by kernel_rfl) (by kernel_rfl) (by kernel_rfl) (fun _ _ _ h => h) (Or.inl ⟨by rfl, fun w hSw => by clear hSw; go_simp⟩) hHeld4 ?_
            try simp only [Act.put, List.getElem_toArray, List.getElem_cons_zero, List.getElem_cons_succ, List.setIfInBounds_toArray, List.set_cons_zero, List.set_cons_succ]
            refine wpAnyH_take (i := 12) (v := .pointer (some ⟨xp, 2, none⟩)) rfl (by kernel_rfl) (by kernel_rfl) (by kernel_rfl) (fun _ _ _ h => h) (Or.inl ⟨by rfl, fun w hSw => by clear hSw; go_simp⟩) hHeld4 ?_
            try simp only [Act.put, List.getElem_toArray, List.getElem_cons_zero, List.getElem_cons_succ, List.setIfInBounds_toArray, List.set_cons_zero, List.set_cons_succ]
            refine wpAnyH_ready (rs := [13]) (by kernel_rfl) (by simp) (AllReadyH.cons rfl (fun K hK => ?_) AllReadyH.nil)
            go_simp
            refine hK.out _ _ (range_keep hHeld4 (heap_setCell_ne _ _ _ hbn.2)) (fun _ => ?_)
            clear hK K hHeld4 hr7
            try simp only [Act.put, List.getElem_toArray, List.getElem_cons_zero, List.getElem_cons_succ, List.setIfInBounds_toArray, List.set_cons_zero, List.set_cons_succ]
            refine wpAnyH_done (by kernel_rfl) (NoPanic.normal ?_) _
            go_wp2_with fail
            go_ret2
            exact ⟨⟨_, _, rfl⟩, _, .inr ⟨t, rfl, HP.out, h0, HN.out, f1, f2, HF3.out, HF4.out⟩, HEND.out.1, HEND.out.2⟩
      · have HG : Hid (∃ x ∈ L, x.1 = g) := hid ⟨L[k'], List.getElem_mem hk', hg'⟩
        have H2 := hid h2
        clear h2 hg'
        go_enter Try.func35, Try.ntmps35
        go_upto_region 4 with (go_at_call 21; refine cA.mono ?_; rintro e w1 ⟨rfl, hs⟩)
        have H1 := hid (H.out.sil hs)
        have HS := hid hs
        clear hs cA
        have cG := rat_any H1.out g
        rw [H2.out] at cG
        simp only [Nat.zero_add] at cG
        go_wp2_with (go_at_call 21; refine cG.mono ?_; rintro e w2 ⟨rfl, hs2⟩)
        go_ret2
        exact spawn_same H.out (HS.out.trans hs2 (fun _ f _ => f)) (.inr (.inr (.inl HG.out)))
end Go.Proofs.Ytepdifajieegeaa
