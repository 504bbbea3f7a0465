/- The reference's watch: Tell. No condition. -/
import Derived.Test.YtepdifajieegeaaRefG
namespace Go.Proofs.Ytepdifajieegeaa
open Go.RowKit

def TPost (w : World) (xp : Nat) (T M : Int) (L : List (Int × Int)) (G : Nat → Prop) (e : Ending) (w' : World) : Prop :=
  (∃ a z, e = .returned (.tuple #[.agg a, .int .i64 z]) ∧ CL a) ∧ RSt w' xp T M L G ∧ Fr G w w'

/-- a store of a whole struct into a block of its own; the world behind it is any -/
theorem wpList_store_blk {P : Program} {ops : Array Oper} {rest : List Oper} {o : Oper} {a : Act} {Q : Exit → Act → World → Prop} (hgd : o.guard = none) (ty : TypeId) (x y : Operand) (ho : o.op = .store ty x y)
    {w : World} (c : Nat) (cells : Array Value) (hx : a.eval x = .pointer (some ⟨c, 0, none⟩)) (hy : a.eval y = .agg cells)
    (t : TypeId) (old : Array Value) (hg : w.heap[c]? = some (.cells old t (0, 0))) (hi : (P.info? ty).map (·.size) = some cells.size) (hold : old.size = cells.size) (h1 : cells.all (·.oneCell') = true)
    (h : ∀ w2, Hid (w2.heap[c]? = some (.cells cells t (0, 0))) → Hid (Fr (fun b => b = c) w w2) → wpList P ops Q rest (a.put o.dst undef) w2) : wpList P ops Q (o :: rest) a w :=
  wpList_store_row hgd ty x y ho c cells hx hy t old hg hi hold h1 (h _ (setRow_heap w c old cells t (0, 0) hg) ⟨rfl, rfl, rfl, by simp, fun b _ e => setRow_other w c b cells e⟩)

/-- a store of a whole struct into the middle of a block; the world behind it is any -/
theorem wpList_store_mid' {P : Program} {ops : Array Oper} {rest : List Oper} {op : Oper} {a : Act} {w : World} {Q : Exit → Act → World → Prop} (hgd : op.guard = none) (ty : TypeId) (x y : Operand) (ho : op.op = .store ty x y)
    (b o : Nat) (cells : Array Value) (hx : a.eval x = .pointer (some ⟨b, o, none⟩)) (hy : a.eval y = .agg cells)
    (ht : w.there b o cells.size) (hi : (P.info? ty).map (·.size) = some cells.size) (h1 : cells.all (·.oneCell') = true)
    (h : ∀ w2, Hid (w2 = w.setCells b o cells.toList) → wpList P ops Q rest (a.put op.dst undef) w2) : wpList P ops Q (op :: rest) a w :=
  wpList_store_mid hgd ty x y ho b o cells hx hy ht hi h1 (h _ rfl)

theorem RSt.keepT {w w' xp T M L G} (h : RSt w xp T M L G) (hk : ∀ (b : Nat) (arr : Array Value) (t : TypeId), w.heap[b]? = some (Obj.cells arr t (0, 0)) → t ≠ 72 → w'.heap[b]? = w.heap[b]?) : RSt w' xp T M L G := by
  obtain ⟨v, xs, hd, ho, hx, hb⟩ := h.st
  refine ⟨⟨v, xs, (hk xp _ _ hd (by decide)).trans hd, ⟨ho.1, ?_⟩, hx, hb⟩, h.gx, h.len⟩
  rcases ho.2 with h0 | ⟨g, cap, cur, rfl, hg, hh, r⟩
  · exact .inl h0
  · exact .inr ⟨g, cap, cur, rfl, hg, (hk g _ _ hh (by decide)).trans hh, r⟩
theorem RSt.blk72 {w w' xp T M L G c arr} (h : RSt w xp T M L G) (hc : w.heap[c]? = some (Obj.cells arr 72 (0, 0))) (k : Fr (fun b => b = c) w w') : RSt w' xp T M L G :=
  h.keepT fun b arr' T hb hT => k.keep b (heap_lt hb) (by rintro rfl; rw [hc] at hb; cases hb; exact hT rfl)

theorem load72 {w : World} {c : Nat} {arr : Array Value} (h : w.heap[c]? = some (.cells arr 72 (0, 0))) (hs : CL arr) (hi : (Try.prog.info? 72).map (·.size) = some 256) :
    (loadVar 72 ⟨c, 0, none⟩).run Try.prog w = .ok (.agg arr) w :=
  run_loadVar_row w c _ _ arr (0, 0) _ h Try.underlying72 rfl (by rw [hs.1]; exact hi)

/-- what Tell hands back -/
theorem results_cell_tmp {P : Program} {fn : Func} {p q : Tmp} {ty : TypeId} (h : fn.results = #[.cell p ty, .tmp q]) (tmps : Array Value) (w : World) (c : Nat) (v u : Value)
    (hp : tmps.getD p undef = .pointer (some ⟨c, 0, none⟩)) (hq : tmps.getD q undef = u) (hl : (loadVar ty ⟨c, 0, none⟩).run P w = .ok v w) : (results fn tmps).run P w = .ok (.tuple #[v, u]) w := by
  have hp' : tmps[p]?.getD undef = .pointer (some ⟨c, 0, none⟩) := by simpa using hp
  have hq' : tmps[q]?.getD undef = u := by simpa using hq
  simp [results, h, hp', hq', asAddr, hl]

set_option maxRecDepth 100000 in
set_option maxHeartbeats 4000000 in
theorem rtell_any {w xp T M L G} (h : RSt w xp T M L G) (g : Int) : Calls Try.prog 38 #[ptr xp, .int .i64 g] w (TPost w xp T M L G) := by
  obtain ⟨Z, hz, hzs, hi⟩ := zero72
  have h0 := h.sil ((Fr.refl _ w).alloc (.cells Z 72))
  have cA := rat_any h0 g
  have hiZ : (Try.prog.info? 72).map (·.size) = some Z.size := by rw [hzs.1]; exact hi
  have hZ1 := hid hzs.one
  have HZC := hid hzs
  rcases atL_spec g L 0 with ⟨h1, _⟩ | ⟨k, hk, h1, hg⟩
  · rw [h1] at cA
    have H := hid h
    have H0 := hid h0
    clear h0 h
    go_enter Try.func38, Try.ntmps38
    go_wp2_with (first
      | (go_at_call 21; refine cA.mono ?_; rintro e w1 ⟨rfl, hs⟩
         have hp1 : w1.heap[w.heap.size]? = some (.cells Z 72 (0, 0)) := (hs.keep _ (by simp) (fun x => x)).trans (heap_alloc_new _ _)
         have HS := hid hs
         clear hs)
      | (refine wpList_store_blk (o := ⟨none, _, _, _, _, _⟩) rfl 72 _ _ rfl w.heap.size Z rfl rfl _ Z hp1 hiZ rfl hZ1.out ?_; intro w2 hw2 HF2))
    have hl := load72 hw2.out HZC.out hi
    have hsl := H.out.lt
    refine bodyPost_ret (v := .tuple #[.agg Z, .int .i64 6]) (results_cell_tmp Try.results38 _ _ w.heap.size _ _ rfl rfl hl) rfl ⟨⟨Z, 6, rfl, HZC.out⟩, ?_, ?_⟩
    · exact H.out.keep fun b _ hb => (HF2.out.keep b (Nat.lt_of_lt_of_le (by simp; omega) HS.out.size) (by show ¬ b = _; omega)).trans ((HS.out.keep b (by simp; omega) (fun x => x)).trans (heap_alloc_lt _ _ hb))
    · exact (((Fr.refl (fun _ => False) w).alloc _).trans HS.out (fun _ f _ => f)).trans HF2.out (fun b e hb => by omega) |>.mono (fun _ x _ => x.elim)
  · rw [h1] at cA
    simp only [Nat.zero_add] at cA
    have H := hid h
    have H0 := hid h0
    clear h0 h h1
    go_enter Try.func38, Try.ntmps38
    go_upto_region 4 with (go_at_call 21; refine cA.mono ?_; rintro e w1 ⟨rfl, hs⟩)
    have H1 := hid (H0.out.sil hs)
    have cC := rcan_any H1.out g
    have hp1 : w1.heap[w.heap.size]? = some (.cells Z 72 (0, 0)) := (hs.keep _ (by simp) (fun x => x)).trans (heap_alloc_new _ _)
    have HS := hid (((Fr.refl (fun _ => False) w).alloc _).trans hs (fun _ f _ => f))
    clear hs cA
    have hH1 := hid H1.out.lt
    go_upto_region 6 with (first
      | (go_at_call 51; refine cC.mono ?_; rintro e w2 ⟨⟨b, rfl⟩, hs2⟩
         have hp2 := (hs2.keep _ (heap_lt hp1) (fun x => x)).trans hp1
         have HS2 := hid hs2
         clear hs2 cC)
      | (refine wpList_store_blk (o := ⟨none, _, _, _, _, _⟩) rfl 72 _ _ rfl w.heap.size Z rfl rfl _ Z hp2 hiZ rfl hZ1.out ?_; intro w3 hw3 HF3))
    · have hl := load72 hw3.out HZC.out hi
      have hsl := H.out.lt
      have hF : Fr (fun _ => False) w w3 := (HS.out.trans HS2.out (fun _ f _ => f)).trans HF3.out (fun b e hb => by omega)
      exact bodyPost_ret (v := .tuple #[.agg Z, .int .i64 5]) (results_cell_tmp Try.results38 _ _ w.heap.size _ _ rfl rfl hl) rfl ⟨⟨Z, 5, rfl, HZC.out⟩, H.out.sil hF, hF.mono (fun _ x _ => x.elim)⟩
    · have H2 := hid (H1.out.sil HS2.out)
      obtain ⟨rb, cap, D, c2, R1, R3, hi', HZ⟩ := H2.out.clk hk hzs hi
      have hiD : (Try.prog.info? 72).map (·.size) = some D.toArray.size := by simpa using hi'
      go_upto_region 7 with (first
        | (refine wpList_load_mid (op := ⟨some 27, _, _, _, _, _⟩) rfl 72 _ rfl rb (k * 258 + 2) rfl D _ R1.out Try.underlying72 rfl hi' ?_)
        | (refine wpList_store_new' (o := ⟨none, _, _, _, _, _⟩) rfl 72 _ _ rfl w2 Z D.toArray rfl rfl hiD HZ.out R3.out.one ?_; intro w3 e3))
      have hb3 : w3.heap[w2.heap.size]? = some (.cells D.toArray 72 (0, 0)) := by rw [e3.out]; exact heap_alloc_new _ _
      have HS3 := hid (show Fr (fun _ => False) w2 w3 by rw [e3.out]; exact (Fr.refl _ _).alloc _)
      have H3 := hid (H2.out.sil HS3.out)
      have hp3 := (HS3.out.keep _ (heap_lt hp2) (fun x => x)).trans hp2
      clear c2 R1 e3 hi' hp1
      go_upto_region 8 with (first
        | (refine wpList_load_row (o := ⟨some 28, _, _, _, _, _⟩) rfl 72 _ rfl w2.heap.size rfl _ D.toArray (0, 0) _ hb3 Try.underlying72 rfl hiD ?_)
        | (refine wpList_store_new' (o := ⟨none, _, _, _, _, _⟩) rfl 72 _ _ rfl w3 Z D.toArray rfl rfl hiD HZ.out R3.out.one ?_; intro w4 e4))
      have HC4 := hid (show CB w4 w3.heap.size by rw [e4.out]; exact CB.alloc_new R3.out)
      have HS4 := hid (show Fr (fun _ => False) w3 w4 by rw [e4.out]; exact (Fr.refl _ _).alloc _)
      have H4 := hid (H3.out.sil HS4.out)
      have hp4 := (HS4.out.keep _ (heap_lt hp3) (fun x => x)).trans hp3
      have hb4 := (HS4.out.keep _ (heap_lt hb3) (fun x => x)).trans hb3
      obtain ⟨rb4, cap4, E4, R⟩ := H4.out.at_ hk rfl
      have c1' := R.c1
      have c2' := R.c2
      have c3' := R.ct
      clear R e4
      go_still_tail 12, (by kernel_rfl)
      obtain ⟨arr4, hc4, _⟩ := HC4.out
      have hn4 : w3.heap.size ≠ w.heap.size ∧ w3.heap.size ≠ w2.heap.size := ⟨fun e => by have := heap_lt hp3; omega, fun e => by have := heap_lt hb3; omega⟩
      go_upto_region 9 with (go_at_call 52; refine (rtick_any HC4.out.drew _ _).mono ?_; rintro e w5 ⟨⟨zz, rfl⟩, hC5, hF5⟩)
      have HS5 := hid hF5
      have H5 := hid ((H4.out.sil (Fr.refl _ w4).drew).blk72 hc4 hF5)
      have hp5 := (hF5.keep _ (heap_lt hp4) (Ne.symm hn4.1)).trans hp4
      have hb5 := (hF5.keep _ (heap_lt hb4) (Ne.symm hn4.2)).trans hb4
      obtain ⟨rb5, cap5, E5, R⟩ := H5.out.at_ hk rfl
      have c5 := R.c2
      obtain ⟨_, cur5, hcur5, hg5, _⟩ := H5.out.row c5
      obtain ⟨arr, hb5', hc5'⟩ := hC5
      have hC5 := hid (show CL arr from hc5')
      have his : (Try.prog.info? 72).map (·.size) = some arr.toList.length := by rw [show arr.toList.length = 256 from by simpa using hC5.out.1]; exact hi
      have hr5 := World.rangeAt_of_block hb5' 0 256
      have hx5 : (arr.extract 0 (0 + 256)).toList = arr.toList := by have := hC5.out.1; simp [← this]
      rw [hx5] at hr5
      have HR5 := hid hr5
      have hia' : (Try.prog.info? 72).map (·.size) = some arr.toList.toArray.size := by simpa using his
      have HO := hid (show arr.toList.toArray.all (·.oneCell') = true by simpa using hC5.out.one)
      have ht' : Hid (w5.there rb5 (k * 258 + 2) arr.toList.toArray.size) := by rw [show arr.toList.toArray.size = 256 from by simpa using hC5.out.1]; exact H5.out.there c5 hk
      have hne5 : Hid (w.heap.size ≠ rb5 ∧ w2.heap.size ≠ rb5) := hid ⟨(by intro e; rw [e, hcur5] at hp5; cases hp5), (by intro e; rw [e, hcur5] at hb5; cases hb5)⟩
      have HG5 := hid hg5
      clear R c1' c2' c3' hc4 hr5 hx5 hb5' hc5' hF5 hp4 hb4 hp3 hb3 hp2 hcur5
      go_still_tail 8, (by kernel_rfl)
      refine wpStill_load_mid (op := ⟨some 47, _, _, _, _, _⟩) rfl 72 _ rfl w3.heap.size 0 rfl arr.toList _ HR5.out rfl Try.underlying72 rfl his ?_
      repeat still_step
      refine wpStill_nil ?_
      go_upto_region 10 with (refine wpList_store_mid' (op := ⟨none, _, _, _, _, _⟩) rfl 72 _ _ rfl rb5 (k * 258 + 2) arr.toList.toArray rfl rfl ht'.out hia' HO.out ?_; intro w6 e6)
      have e6' : w6 = w5.drew.setCells rb5 (k * 258 + 2) arr.toList.toArray.toList := e6.out
      have h6 : RSt (w5.drew.setCells rb5 (k * 258 + 2) arr.toList.toArray.toList) xp T M L G := RSt.setClk (H5.out.sil ((Fr.refl _ _).drew)) c5 hk (by simpa using hC5.out)
      have hk6 : Fr (fun b => b = rb5) w5 (w5.drew.setCells rb5 (k * 258 + 2) arr.toList.toArray.toList) := Fr.setCells (F := fun b => b = rb5) (.inl rfl) _ _ _ ((Fr.refl (fun b => b = rb5) w5).drew)
      have hp6 := (hk6.keep _ (heap_lt hp5) hne5.out.1).trans hp5
      have hb6 := (hk6.keep _ (heap_lt hb5) hne5.out.2).trans hb5
      have hF4 : Fr (fun _ => False) w w4 := ((HS.out.trans HS2.out (fun _ f _ => f)).trans HS3.out (fun _ f _ => f)).trans HS4.out (fun _ f _ => f)
      have hs3 : w.heap.size ≤ w3.heap.size := ((HS.out.trans HS2.out (fun _ f _ => f)).trans HS3.out (fun _ f _ => f)).size
      have hF5 : Fr (fun _ => False) w w5 := hF4.drew.trans HS5.out (fun b e hb => by omega)
      have hF6 : Fr G w (w5.drew.setCells rb5 (k * 258 + 2) arr.toList.toArray.toList) := Fr.setCells (.inl HG5.out) _ _ _ ((hF5.mono (fun _ x _ => x.elim)).drew)
      have H6 := hid h6
      have HF6 := hid hF6
      clear h6 hk6 hF4 hF5 hF6 c5 hp5 hb5
      rw [← e6'] at hp6 hb6 H6 HF6
      clear e6' e6
      go_wp2_with (first
        | (refine wpList_load_row (o := ⟨some 50, _, _, _, _, _⟩) rfl 72 _ rfl w2.heap.size rfl _ D.toArray (0, 0) _ hb6 Try.underlying72 rfl hiD ?_)
        | (refine wpList_store_blk (o := ⟨none, _, _, _, _, _⟩) rfl 72 _ _ rfl w.heap.size D.toArray rfl rfl _ Z hp6 hiD HZ.out R3.out.one ?_; intro w7 hw7 HF7))
      exact bodyPost_ret (v := .tuple #[.agg D.toArray, .int .i64 0]) (results_cell_tmp Try.results38 _ _ w.heap.size _ _ rfl rfl (load72 hw7.out R3.out hi)) rfl
        ⟨⟨_, _, rfl, R3.out⟩, H6.out.blk72 hp6 HF7.out, HF6.out.trans HF7.out (fun b e hb => by omega)⟩
end Go.Proofs.Ytepdifajieegeaa
