/- The reference's watch: Retire. No condition. -/
import Derived.Test.YtepdifajieegeaaRefJ
namespace Go.Proofs.Ytepdifajieegeaa
open Go.RowKit

theorem wpList_build' {P : Program} {ops : Array Oper} {rest : List Oper} {o : Oper} {a : Act} {w : World} {Q : Exit → Act → World → Prop} (hg : o.guard = none) (t : TypeId) (parts : Array (Nat × Operand)) (ho : o.op = .build t parts)
    (cells : Array Value) (h : P.built t (parts.toList.map fun (i, x) => (i, a.eval x)) = some cells) (hn : wpList P ops Q rest (a.put o.dst (.agg cells)) w) : wpList P ops Q (o :: rest) a w := by
  have h' : P.built t (parts.map fun (i, x) => (i, a.eval x)).toList = some cells := by rw [Array.toList_map]; exact h
  refine wpList_build hg t parts ho (by rw [h']; rfl) ?_
  rw [h']; exact hn
theorem wpList_buildSlice' {P : Program} {ops : Array Oper} {rest : List Oper} {o : Oper} {a : Act} {w : World} {Q : Exit → Act → World → Prop} (hg : o.guard = none) (t e : TypeId) (len : Nat) (parts : Array (Nat × Operand)) (ho : o.op = .buildSlice t len parts)
    (cells : Array Value) (ie : TypeInfo) (z : Value)
    (hu : P.underlying t = some (.slice e)) (hie : P.info? e = some ie) (hz : ie.zero = some z) (hsmall : ¬ len * ie.size > 2 ^ 24) (hpos : ¬ len * ie.size = 0)
    (hf : Instr.fill (fun i => some (i * ie.size, ie.size)) ((Array.range (len * ie.size)).map (z.cells[· % z.cells.size]!)) (parts.toList.map fun (i, x) => (i, a.eval x)) = some cells)
    (h : wpList P ops Q rest (a.put o.dst (.slice (some ⟨w.heap.size, 0, none⟩) len len)) (w.alloc (.cells cells e))) : wpList P ops Q (o :: rest) a w :=
  wpList_buildSlice hg t e len parts ho cells ie z hu hie hz hsmall hpos (by rw [Array.toList_map]; exact hf) h

/-- all but one -/
def notG (g : Int) (x : Int × Int) : Bool := x.1 != g
def RetireP (w : World) (xp : Nat) (T M : Int) (L : List (Int × Int)) (G : Nat → Prop) (g : Int) (e : Ending) (w' : World) : Prop :=
  (∃ z, e = .returned (.int .i64 z)) ∧ RSt w' xp T M (L.filter (notG g)) (Gr G w w') ∧ Fr G w w'

theorem ret_same {L : List (Int × Int)} {g : Int} (h : ∀ x ∈ L, x.1 ≠ g) : L.filter (notG g) = L :=
  List.filter_eq_self.2 fun x hx => by simpa [notG] using h x hx

/-- what the loop keeps -/
structure RtL (w wr : World) (L : List (Int × Int)) (g : Int) (o : Value) (k : Nat) : Prop where
  fr : Fr (fun _ => False) w wr
  own : ∃ xs, wr.ownsRow w.heap.size 75 258 o ((L.take k).filter (notG g)).length xs ∧ Ones xs ((L.take k).filter (notG g))

theorem RtL.form {w wr L g o k} (h : RtL w wr L g o k) : ∃ p n c, o = .slice p n c := by
  obtain ⟨xs, h1, _⟩ := h.own
  rcases h1.2 with ⟨e, _⟩ | ⟨b, cap, _, e, _⟩
  · exact ⟨_, _, _, e⟩
  · exact ⟨_, _, _, e⟩
theorem RtL.start (w : World) (L g) : RtL w w L g (.slice none 0 0) 0 :=
  ⟨Fr.refl _ _, [], ⟨by simp, .inl ⟨rfl, by simp⟩⟩, by simp, fun i hi => by simp at hi⟩
theorem RtL.skip {w wr w' L g o k} (h : RtL w wr L g o k) (hk : k < L.length) (hg : L[k].1 = g) (hF : Fr (fun _ => False) wr w') : RtL w w' L g o (k + 1) := by
  have e : (L.take (k + 1)).filter (notG g) = (L.take k).filter (notG g) := by
    rw [List.take_succ_eq_append_getElem hk, List.filter_append]
    simp [notG, hg]
  obtain ⟨xs, h1, h2⟩ := h.own
  refine ⟨h.fr.trans hF (fun _ f _ => f), ?_⟩
  rw [e]
  exact ⟨xs, ownsRow_blk h1 (fun b _ hb => hF.keep b hb (fun x => x)), h2⟩
theorem take_keep {L : List (Int × Int)} {g : Int} {k : Nat} (hk : k < L.length) (hg : L[k].1 ≠ g) : (L.take (k + 1)).filter (notG g) = (L.take k).filter (notG g) ++ [L[k]] := by
  rw [List.take_succ_eq_append_getElem hk, List.filter_append]
  simp [notG, hg]

/-- one more is kept -/
theorem RtL.more {w1 wr w4 w7 : World} {L : List (Int × Int)} {g gm tm : Int} {o : Value} {m : Nat} (h : RtL w1 wr L g o m) (hm : m < L.length) (hL : L[m] = (gm, tm)) (hg : ¬ gm = g) {Y : List (Int × Int)} (hY : (L.take m).filter (notG g) = Y)
    (hF : Fr (fun _ => False) wr w4) {ys : List Value} (hys : Ones ys Y) {V : Array Value} (hV : OneV V gm tm) {ob : Obj} {r : Option Nat} (hgrow : (w4.alloc ob).grownBy w7 r) {gg cap : Nat}
    (hown : w7.ownsRow w1.heap.size 75 258 (.slice (some ⟨gg, 0, none⟩) (Y.length + 1) cap) (Y.length + 1) (ys ++ V.toList)) (hr : ∀ n, r = some n → w1.heap.size ≤ n) :
    RtL w1 w7 L g (.slice (some ⟨gg, 0, none⟩) (Y.length + 1) cap) (m + 1) := by
  have e : (L.take (m + 1)).filter (notG g) = Y ++ [(gm, tm)] := by rw [take_keep hm (by rw [hL]; exact hg), hY, hL]
  refine ⟨grown_fr hgrow ((h.fr.trans hF (fun _ f _ => f)).alloc ob) (fun n e => .inr (hr n e)), ys ++ V.toList, ?_, ?_⟩
  · rw [e]; simpa using hown
  · rw [e]; exact hys.snoc hV

/-- the list is laid into the watch -/
theorem RtL.done {w w1 wr : World} {xp : Nat} {T M : Int} {L : List (Int × Int)} {G : Nat → Prop} {g z : Int} {o : Value} (h : RtL w1 wr L g o L.length) (H1 : RSt w1 xp T M L G) (hs : Fr (fun _ => False) w w1) :
    RetireP w xp T M L G g (.returned (.int .i64 z)) (wr.setCell ⟨xp, 2, none⟩ o) := by
  obtain ⟨ys, h1, h2⟩ := h.own
  rw [List.take_length] at h1 h2
  obtain ⟨v, xs, hd, _, _, _⟩ := H1.st
  have hxl := heap_lt hd
  have hd' := (h.fr.keep xp hxl (fun x => x)).trans hd
  have hF : Fr G w wr := (hs.trans h.fr (fun _ f _ => f)).mono (fun _ x _ => x.elim)
  have hw1 := hs.size
  have hwr : (wr.setCell ⟨xp, 2, none⟩ o).heap.size = wr.heap.size := by simp
  have hob : ∀ b, o.ownBlock = some b → w1.heap.size ≤ b ∧ b < wr.heap.size := fun b e => h1.lt b e
  refine ⟨⟨_, rfl⟩, ⟨⟨o, ys, heap_setCell_eq hd' 2 _, ?_, h2, fun b e => ?_⟩, .inl H1.gx, ?_⟩, hF.setCell (.inl H1.gx) _⟩
  · refine ⟨h1.1, ?_⟩
    rcases h1.2 with h0 | ⟨b, cap, cur, rfl, hg, hh, r⟩
    · exact .inl h0
    · exact .inr ⟨b, cap, cur, rfl, Nat.zero_le _, (heap_setCell_ne _ _ _ (by show b ≠ xp; omega)).trans hh, r⟩
  · have := hob b e
    refine ⟨.inr ⟨by omega, by omega⟩, by omega⟩
  · have := List.length_filter_le (notG g) L
    have := H1.len
    omega

set_option maxRecDepth 100000 in
set_option maxHeartbeats 4000000 in
theorem rretire_any {w xp T M L G} (h : RSt w xp T M L G) (g : Int) : Calls Try.prog 40 #[ptr xp, .int .i64 g] w (RetireP w xp T M L G g) := by
  have cA := rat_any h g
  have H := hid h
  rcases atL_spec g L 0 with ⟨h1, hN⟩ | ⟨k, hk, h1, hg⟩
  · rw [h1] at cA
    have HN := hid hN
    clear h hN h1
    go_enter Try.func40, Try.ntmps40
    go_wp2_with (go_at_call 21; refine cA.mono ?_; rintro e w1 ⟨rfl, hs⟩)
    go_ret
    refine ⟨⟨_, rfl⟩, ?_, hs.mono (fun _ x _ => x.elim)⟩
    rw [ret_same HN.out]
    exact (H.out.sil hs).mono (fun _ x _ => .inl x)
  · rw [h1] at cA
    simp only [Nat.zero_add] at cA
    obtain ⟨Z, hz, hzs, hi⟩ := zero75
    obtain ⟨Z2, hz2, hzs2, hi2⟩ := zero72
    clear h h1 hg
    go_enter Try.func40, Try.ntmps40
    go_upto_region 4 with (go_at_call 21; refine cA.mono ?_; rintro e w1 ⟨rfl, hs⟩)
    have H1 := hid (H.out.sil hs)
    have HS := hid hs
    clear hs cA
    obtain ⟨v, _, _, c2, hfz, hv⟩ := H1.out.cells
    rcases hv with ⟨rfl, rfl⟩ | ⟨rb, cap, rfl, hrb, hgr, hne, xs, hX, hR, hfr⟩
    · simp at hk
    have hone := hX.one hR hk
    have ct : w1.cell? ⟨rb, k * 258 + 1, none⟩ = some (.int .i64 L[k].2) := hone.at_ 1 _ hone.t
    have HX := hid hX
    have HR := hid hR
    have hf2 := hfz 2
    generalize L[k].2 = tid at ct
    clear hX hR hone hfr hfz
    have hlen := H1.out.len
    have hxl := H1.out.lt
    go_wp2_with fail
    go_loopw [7, 29] (fun o i wr => ∃ m : Nat, m ≤ L.length ∧ i = .int .i64 m ∧ RtL w1 wr L g o m) (fun _ i _ => L.length - (intOf i).toNat)
    case atStart => exact ⟨0, by omega, rfl, RtL.start _ _ _⟩
    case round =>
      obtain ⟨m, hm, rfl, hL⟩ := hrel
      have HL := hid hL
      clear hL
      by_cases hlt : m < L.length
      · have hone := HX.out.one (range_keep HR.out (HL.out.fr.keep rb hrb (fun x => x))) hlt
        generalize el xs m = E at hone
        have O := hid hone
        have e0 := hone.g
        have e1 := hone.t
        have hi' : (Try.prog.info? 75).map (·.size) = some E.length := by rw [hone.len]; exact hi
        clear hone
        by_cases hgg : L[m].1 = g
        · have HG := hid hgg
          rw [hgg] at e0
          clear hgg
          go_wp2_with (first
            | (refine wpList_load_mid (op := ⟨some 32, _, _, _, _, _⟩) rfl 75 _ rfl rb (m * 258) rfl E _ O.out.at_ Try.underlying75 rfl hi' ?_)
            | (refine wpList_store_new (o := ⟨none, _, _, _, _, _⟩) rfl 75 _ _ rfl wr Z E.toArray rfl rfl (by simpa using hi') (by simp [O.out.len, hzs]) (all_one O.out.len O.out.c) ?_))
          go_roundw
          case rel => exact ⟨m + 1, by omega, by go_num, HL.out.skip hlt HG.out ((Fr.refl _ _).alloc _)⟩
          case measure => simp [intOf]; omega
        · have HG := hid hgg
          have hgb : (L[m].1 == g) = false := by simpa using hgg
          clear hgg
          obtain ⟨r1, r2, r3⟩ := O.out.clk
          have HC := hid r3
          clear r1 r2 r3
          go_upto_region 9 with (first
            | (refine wpList_load_mid (op := ⟨some 32, _, _, _, _, _⟩) rfl 75 _ rfl rb (m * 258) rfl E _ O.out.at_ Try.underlying75 rfl hi' ?_)
            | (refine wpList_store_new' (o := ⟨none, _, _, _, _, _⟩) rfl 75 _ _ rfl wr Z E.toArray rfl rfl (by simpa using hi') (by simp [O.out.len, hzs]) (all_one O.out.len O.out.c) ?_; intro w2 e2))
          have hb2 : w2.heap[wr.heap.size]? = some (.cells E.toArray 75 (0, 0)) := by rw [e2.out]; exact heap_alloc_new _ _
          have HS2 := hid (show Fr (fun _ => False) wr w2 by rw [e2.out]; exact (Fr.refl _ _).alloc _)
          have d0 : w2.cell? ⟨wr.heap.size, 0, none⟩ = some (.int .i64 L[m].1) := (cell_blk hb2 0).trans (by simpa using e0)
          have d1 : w2.cell? ⟨wr.heap.size, 1, none⟩ = some (.int .i64 L[m].2) := (cell_blk hb2 1).trans (by simpa using e1)
          have hr2 := World.rangeAt_of_block hb2 2 256
          have hx2 : (E.toArray.extract 2 (2 + 256)).toList = E.drop 2 := by have := O.out.len; simp; rw [List.take_of_length_le (by simp; omega)]
          rw [hx2] at hr2
          have HR2 := hid hr2
          have hD : (E.drop 2).toArray.size = 256 := HC.out.1
          have hiD : (Try.prog.info? 72).map (·.size) = some (E.drop 2).length := by rw [show (E.drop 2).length = 256 from by simpa using hD]; exact hi2
          have hiD' : (Try.prog.info? 72).map (·.size) = some (E.drop 2).toArray.size := by rw [hD]; exact hi2
          have HB2 := hid hb2
          obtain ⟨⟨gm, tm⟩, hLm⟩ : ∃ x, L[m] = x := ⟨_, rfl⟩
          have HLM := hid hLm
          rw [hLm] at d0 d1 hgb HG O
          simp only at d0 d1 hgb HG
          clear e2 hr2 hx2 hb2 e0 e1 hLm
          go_upto_region 11 with (first
            | (refine wpList_load_mid (op := ⟨some 38, _, _, _, _, _⟩) rfl 72 _ rfl wr.heap.size 2 rfl (E.drop 2) _ HR2.out Try.underlying72 rfl hiD ?_)
            | (refine wpList_store_new' (o := ⟨none, _, _, _, _, _⟩) rfl 72 _ _ rfl w2 Z2 (E.drop 2).toArray rfl rfl hiD' (by rw [hzs2.1, hD]) HC.out.one ?_; intro w3 e3))
          have HC3 := hid (show CB w3 w2.heap.size by rw [e3.out]; exact CB.alloc_new HC.out)
          have HS3 := hid (show Fr (fun _ => False) w2 w3 by rw [e3.out]; exact (Fr.refl _ _).alloc _)
          clear e3
          have cS := rset_any HC3.out tid 0
          go_upto_region 12 with (go_at_call 34; refine cS.mono ?_; rintro e w4 ⟨⟨zz, rfl⟩, hC4, hF4⟩)
          obtain ⟨arr, hb4, hc4⟩ := hC4
          have hA4 : CL arr := hc4
          have hl9 := heap_lt HB2.out
          have hs9 := HS2.out.size
          have e9 : w4.heap[wr.heap.size]? = some (.cells E.toArray 75 (0, 0)) := (hF4.keep _ (by have := HS3.out.size; omega) (by omega)).trans ((HS3.out.keep _ hl9 (fun x => x)).trans HB2.out)
          have d04 : w4.cell? ⟨wr.heap.size, 0, none⟩ = some (.int .i64 gm) := (cell_same (e9.trans HB2.out.symm) 0).trans d0
          have d14 : w4.cell? ⟨wr.heap.size, 1, none⟩ = some (.int .i64 tm) := (cell_same (e9.trans HB2.out.symm) 1).trans d1
          have HF4 := hid (show Fr (fun _ => False) wr w4 from (HS2.out.trans HS3.out (fun _ f _ => f)).trans hF4 (fun b e hb => by omega))
          obtain ⟨V, hV, hbd⟩ := one_built gm tm hA4
          have HV := hid hV
          have HBD := hid hbd
          have hi4 : (Try.prog.info? 72).map (·.size) = some arr.size := by rw [hA4.1]; exact hi2
          obtain ⟨i75, e75, z75, s75, b75⟩ := info75
          obtain ⟨ys, hO, hY⟩ := HL.out.own
          obtain ⟨Y, hYe⟩ : ∃ Y, (L.take m).filter (notG g) = Y := ⟨_, rfl⟩
          rw [hYe] at hO hY
          have HYe := hid hYe
          have hYl : Y.length ≤ 1000 := by rw [← hYe]; have := List.length_filter_le (notG g) (L.take m); simp at this; omega
          have HO := hid (show w4.ownsRow w1.heap.size 75 258 u7 Y.length ys from ownsRow_blk hO (fun b _ hb => HF4.out.keep b hb (fun x => x)))
          have HY := hid hY
          have hb1 : w1.heap.size ≤ w4.heap.size := Nat.le_trans HL.out.fr.size HF4.out.size
          clear hc4 hA4 hl9 hs9 e9 d0 d1 hF4 hV hbd hO hYe hY HB2 HC3 HS3 HR2 hD hiD hiD' HS2 HC cS O
          go_wp2_with (first
            | (refine wpList_load_row (o := ⟨some 46, _, _, _, _, _⟩) rfl 72 _ rfl w2.heap.size rfl _ arr (0, 0) _ hb4 Try.underlying72 rfl hi4 ?_)
            | (refine wpList_build' (o := ⟨some 47, _, _, _, _, _⟩) rfl _ _ rfl V HBD.out ?_)
            | (refine wpList_buildSlice' (o := ⟨some 48, _, _, _, _, _⟩) rfl _ _ 1 _ rfl V i75 _ Try.underlying76 e75 z75 (by rw [s75]; omega) (by rw [s75]; omega) (one_fill HV.out.size s75) ?_)
            | (refine wpList_append_lies (o := ⟨some 49, _, _, _, _, _⟩) _ (by rfl) _ _ _ (by rfl) w1.heap.size 75 i75 _ 258 2064 Try.underlying76 e75 z75 s75 b75 (by simp [Value.cells]) (by omega) u7 Y.length ys (by rfl) (HO.out.alloc _) ⟨w4.heap.size, 0, none⟩ 1 1 V.toList (by rfl) (by simp [HV.out.size]) (World.news_of_block (cs := V) (t := 75) (fr := (0, 0)) (heap_alloc_new w4 _)) (fun u hu => Array.all_eq_true_iff_forall_mem.1 (all_one (E := V.toList) (by simpa using HV.out.size) (by simpa using HV.out.all)) u (by simpa using hu)) (by omega) (by unfold maxLen; omega) (by omega) (by simp; omega) (w4.heap.size + 1) (by simp) ?_; intro gg cap7 w7 hown7 hgrow hat hlt7))
          have HR7 := hid (RtL.more HL.out hlt HLM.out HG.out HYe.out HF4.out HY.out HV.out hgrow hown7 (fun n e => (HO.out.lt n e).1))
          clear hown7 hgrow hat hlt7
          go_roundw
          case rel => exact ⟨m + 1, by omega, by go_num, HR7.out⟩
          case measure => simp [intOf]; omega
      · have c2r := (sil_cell HL.out.fr xp 2 hxl).trans c2
        have f2r := (sil_froz HL.out.fr xp 2 hxl).trans hf2
        obtain ⟨p7, n7, c7, rfl⟩ := HL.out.form
        go_wp2_with fail
        go_ret
        have hm' : m = L.length := by omega
        subst hm'
        exact HL.out.done H1.out HS.out
end Go.Proofs.Ytepdifajieegeaa
