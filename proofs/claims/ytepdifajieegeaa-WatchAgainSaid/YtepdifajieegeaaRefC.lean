/- The reference's watch: what it holds; At. No condition. -/
import Derived.Test.YtepdifajieegeaaRefB
import Derived.Deep.WholeRow
namespace Go.Proofs.Ytepdifajieegeaa
open Go.RowKit

/-- cells of ones: of each its goroutine, its tid, a clock -/
def Ones (xs : List Value) (L : List (Int × Int)) : Prop :=
  xs.length = L.length * 258 ∧ ∀ i, (h : i < L.length) → xs[i * 258]? = some (.int .i64 L[i].1) ∧ xs[i * 258 + 1]? = some (.int .i64 L[i].2) ∧ ∀ j, j < 256 → ∃ z, xs[i * 258 + 2 + j]? = some (.int .i64 z)

structure RSt (w : World) (xp : Nat) (T M : Int) (L : List (Int × Int)) (G : Nat → Prop) : Prop where
  st : ∃ v xs, w.heap[xp]? = some (.cells #[.int .i64 T, .int .i64 M, v] 78 (0, 0)) ∧ w.ownsRow 0 75 258 v L.length xs ∧ Ones xs L ∧ (∀ b, v.ownBlock = some b → G b ∧ b ≠ xp)
  gx : G xp
  len : L.length ≤ 1000

/-- what the watch's cells are -/
theorem RSt.cells {w xp T M L G} (h : RSt w xp T M L G) : ∃ v, w.cell? ⟨xp, 0, none⟩ = some (.int .i64 T) ∧ w.cell? ⟨xp, 1, none⟩ = some (.int .i64 M) ∧ w.cell? ⟨xp, 2, none⟩ = some v ∧ (∀ i, w.frozen? ⟨xp, i, none⟩ = false) ∧
    ((v = .slice none 0 0 ∧ L = []) ∨ ∃ rb cap, v = .slice (some ⟨rb, 0, none⟩) L.length cap ∧ rb < w.heap.size ∧ G rb ∧ rb ≠ xp ∧ ∃ xs, Ones xs L ∧ w.rangeAt rb 0 xs ∧ ∀ i, w.frozen? ⟨rb, i, none⟩ = false) := by
  obtain ⟨v, xs, hd, ⟨hl, ho⟩, hx, hb⟩ := h.st
  refine ⟨v, by simpa using cell_blk hd 0, by simpa using cell_blk hd 1, by simpa using cell_blk hd 2, fun i => froz_blk hd i, ?_⟩
  rcases ho with ⟨rfl, h0⟩ | ⟨g, cap, cur, rfl, _, hh, _, _, _, ht⟩
  · exact .inl ⟨rfl, List.eq_nil_of_length_eq_zero h0⟩
  · refine .inr ⟨g, cap, rfl, heap_lt hh, (hb g rfl).1, (hb g rfl).2, xs, hx, ?_, fun i => froz_blk hh i⟩
    intro j u hj
    rw [Nat.zero_add, cell_blk hh j]
    rw [← ht, List.getElem?_take] at hj
    split at hj
    · simpa using hj
    · cases hj

/-- one of the ones, as cells -/
def el (xs : List Value) (i : Nat) : List Value := (xs.drop (i * 258)).take 258
set_option maxRecDepth 100000 in
theorem Ones.el_len {xs L} (h : Ones xs L) {i : Nat} (hi : i < L.length) : (el xs i).length = 258 := by
  have := h.1
  simp [el]; omega
set_option maxRecDepth 100000 in
theorem Ones.el_at {xs L} (h : Ones xs L) {i : Nat} (hi : i < L.length) {j : Nat} (hj : j < 258) : (el xs i)[j]? = xs[i * 258 + j]? := by
  simp [el, List.getElem?_take, hj]
theorem range_el {w : World} {rb : Nat} {xs : List Value} (h : w.rangeAt rb 0 xs) (i : Nat) : w.rangeAt rb (i * 258) (el xs i) := by
  intro j u hu
  have := h (i * 258 + j) u (by
    simp only [el, List.getElem?_take, List.getElem?_drop] at hu
    split at hu
    · exact hu
    · cases hu)
  simpa using this

/-- the types' rows -/
theorem zero75 : ∃ Z, (∀ w, (zeroValue 75).run Try.prog w = .ok (.agg Z) w) ∧ Z.size = 258 ∧ (Try.prog.info? 75).map (·.size) = some 258 := by
  have h1 : (Try.prog.info? 75).map (fun i => (i.zero, i.size)) = some (some (.agg (Array.replicate 258 (.int .i64 0))), 258) := by kernel_rfl
  obtain ⟨h3, h4⟩ := zero_of_info h1
  exact ⟨_, h3, by simp, h4⟩
theorem zero72 : ∃ Z, (∀ w, (zeroValue 72).run Try.prog w = .ok (.agg Z) w) ∧ CL Z ∧ (Try.prog.info? 72).map (·.size) = some 256 := by
  have h1 : (Try.prog.info? 72).map (fun i => (i.zero, i.size)) = some (some (.agg (Array.replicate 256 (.int .i64 0))), 256) := by kernel_rfl
  obtain ⟨h3, h4⟩ := zero_of_info h1
  exact ⟨_, h3, ⟨by simp, fun j hj => ⟨0, by simp [hj]⟩⟩, h4⟩

set_option maxRecDepth 100000 in
theorem Ones.el_int {xs L} (h : Ones xs L) {i : Nat} (hi : i < L.length) {j : Nat} (hj : j < 258) : ∃ z, (el xs i)[j]? = some (.int .i64 z) := by
  obtain ⟨h1, h2, h3⟩ := h.2 i hi
  rw [h.el_at hi hj]
  match j with
  | 0 => exact ⟨_, h1⟩
  | 1 => exact ⟨_, h2⟩
  | j + 2 =>
    obtain ⟨z, hz⟩ := h3 j (by omega)
    exact ⟨z, by rw [← hz]; congr 1; omega⟩
set_option maxRecDepth 100000 in
theorem all_one {E : List Value} {n : Nat} (hn : E.length = n) (h : ∀ j, j < n → ∃ z, E[j]? = some (.int .i64 z)) : E.toArray.all (·.oneCell') = true := by
  refine all_oneCell_toArray fun u hu => ?_
  obtain ⟨j, hj, e⟩ := List.getElem_of_mem hu
  obtain ⟨z, hz⟩ := h j (by omega)
  rw [List.getElem?_eq_getElem hj, e] at hz
  cases hz
  rfl

/-- a store of a whole struct into the block that was made last -/
theorem wpList_store_new {P : Program} {ops : Array Oper} {rest : List Oper} {o : Oper} {a : Act} {Q : Exit → Act → World → Prop} (hgd : o.guard = none) (ty : TypeId) (x y : Operand) (ho : o.op = .store ty x y)
    (w0 : World) (Z cells : Array Value) (hx : a.eval x = .pointer (some ⟨w0.heap.size, 0, none⟩)) (hy : a.eval y = .agg cells)
    (hi : (P.info? ty).map (·.size) = some cells.size) (hold : Z.size = cells.size) (h1 : cells.all (·.oneCell') = true)
    (h : wpList P ops Q rest (a.put o.dst undef) (w0.alloc (.cells cells ty))) : wpList P ops Q (o :: rest) a (w0.alloc (.cells Z ty)) := by
  refine wpList_store_row hgd ty x y ho w0.heap.size cells hx hy ty Z (heap_alloc_new _ _) hi hold h1 ?_
  rw [World.setRow_alloc_new]
  exact h

/-- one of the ones, loaded -/
structure OneC (w : World) (b o : Nat) (x : Int × Int) (E : List Value) : Prop where
  at_ : w.rangeAt b o E
  len : E.length = 258
  g : E[0]? = some (.int .i64 x.1)
  t : E[1]? = some (.int .i64 x.2)
  c : ∀ j, j < 258 → ∃ z, E[j]? = some (.int .i64 z)
set_option maxRecDepth 100000 in
theorem Ones.one {w : World} {rb : Nat} {xs L} (h : Ones xs L) (hr : w.rangeAt rb 0 xs) {i : Nat} (hi : i < L.length) : OneC w rb (i * 258) L[i] (el xs i) :=
  ⟨range_el hr i, h.el_len hi, by rw [h.el_at hi (by omega)]; exact (h.2 i hi).1, by rw [h.el_at hi (by omega)]; exact (h.2 i hi).2.1, fun j hj => h.el_int hi hj⟩
theorem range_keep {w w' : World} {b o : Nat} {cs : List Value} (h : w.rangeAt b o cs) (hk : w'.heap[b]? = w.heap[b]?) : w'.rangeAt b o cs := fun j u hu => by
  rw [cell_same hk]; exact h j u hu

/-- where a goroutine stands -/
def atL : List (Int × Int) → Int → Nat → Int
  | [], _, _ => -1
  | x :: l, g, i => if x.1 = g then (i : Int) else atL l g (i + 1)

theorem atL_drop {L : List (Int × Int)} (g : Int) {k : Nat} (hk : k < L.length) : atL (L.drop k) g k = if L[k].1 = g then (k : Int) else atL (L.drop (k + 1)) g (k + 1) := by
  rw [List.drop_eq_getElem_cons hk]
  rfl

set_option maxRecDepth 100000 in
set_option maxHeartbeats 1000000 in
theorem rat_any {w xp T M L G} (h : RSt w xp T M L G) (g : Int) : Calls Try.prog 21 #[ptr xp, .int .i64 g] w (SilRet w (.int .i64 (atL L g 0))) := by
  obtain ⟨v, c0, c1, c2, _, hv⟩ := h.cells
  have hlen := h.len
  rcases hv with ⟨rfl, rfl⟩ | ⟨rb, cap, rfl, hrb, _, _, xs, hX, hR, _⟩
  · clear h
    go_enter Try.func21, Try.ntmps21
    go_wp2_with fail
    go_loop [12] (fun i => i = .int .i64 0) (fun _ => 0)
    case atStart => rfl
    case round =>
      obtain rfl := hrel
      go_wp2_with fail
      go_ret
      exact ⟨rfl, Fr.refl _ _⟩
  · obtain ⟨Z, hz, hzs, hi⟩ := zero75
    have HX := hid hX
    have HR := hid hR
    have HRB : rb < w.heap.size := hrb
    clear hX hR
    go_enter Try.func21, Try.ntmps21
    go_wp2_with fail
    go_loopw [12] (fun i wr => ∃ k : Nat, k ≤ L.length ∧ i = .int .i64 k ∧ Fr (fun _ => False) w wr ∧ atL L g 0 = atL (L.drop k) g k) (fun i _ => L.length - (intOf i).toNat)
    case atStart => exact ⟨0, by omega, rfl, Fr.refl _ _, by simp⟩
    case round =>
      obtain ⟨k, hk, rfl, hF, hA⟩ := hrel
      by_cases hlt : k < L.length
      · have HF := hid hF
        have HA := hid hA
        clear hF hA
        have hone := HX.out.one (range_keep HR.out (HF.out.keep rb HRB (fun x => x))) hlt
        generalize el xs k = E at hone
        have O := hid hone
        have e0 := hone.g
        have hi' : (Try.prog.info? 75).map (·.size) = some E.length := by rw [hone.len]; exact hi
        clear hone
        go_wp2_with (first
          | (refine wpList_load_mid (op := ⟨some 16, _, _, _, _, _⟩) rfl 75 _ rfl rb (k * 258) rfl E _ O.out.at_ Try.underlying75 rfl hi' ?_)
          | (refine wpList_store_new (o := ⟨none, _, _, _, _, _⟩) rfl 75 _ _ rfl wr Z E.toArray rfl rfl (by simpa using hi') (by simp [O.out.len, hzs]) (all_one O.out.len O.out.c) ?_))
        · go_ret
          refine ⟨ret_int ?_, HF.out.alloc _⟩
          rw [HA.out, atL_drop g hlt, if_pos (by simpa using ‹(L[k].fst == g) = true›)]
        · go_roundw
          case rel =>
            refine ⟨k + 1, by omega, by go_num, HF.out.alloc _, ?_⟩
            rw [HA.out, atL_drop g hlt, if_neg (by simpa using ‹(L[k].fst == g) = false›)]
          case measure => simp [intOf]; omega
      · go_wp2_with fail
        go_ret
        have hk' : k = L.length := by omega
        subst hk'
        exact ⟨ret_int (by rw [hA]; simp [atL]), hF⟩
end Go.Proofs.Ytepdifajieegeaa
