/- The watch: free. -/
import Derived.Test.YtepdifajieegeaaWatD
namespace Go.Proofs.Ytepdifajieegeaa
open Go.RowKit

/-- where the first 'false' stands -/
def idxF : List Bool → Nat → Int
  | [], _ => -1
  | b :: l, i => if b then idxF l (i + 1) else i

theorem idxF_all : ∀ (l : List Bool) (i : Nat), (∀ b ∈ l, b = true) → idxF l i = -1
  | [], _, _ => rfl
  | b :: l, i, h => by
    rw [idxF, h b (by simp)]; simp
    exact idxF_all l (i + 1) (fun c hc => h c (by simp [hc]))
theorem idxF_at : ∀ (l : List Bool) (i k : Nat), (hk : k < l.length) → (∀ j, (h : j < k) → l[j] = true) → l[k] = false → idxF l i = ((i + k : Nat) : Int)
  | [], _, k, hk, _, _ => by simp at hk
  | b :: l, i, 0, _, _, h => by
    simp at h; subst h; simp [idxF]
  | b :: l, i, k + 1, hk, hj, h => by
    have hb : b = true := hj 0 (by omega)
    subst hb
    simp only [idxF, if_true]
    rw [idxF_at l (i + 1) k (by simpa using hk) (fun j hj' => by simpa using hj (j + 1) (by omega)) (by simpa using h)]
    congr 1; omega

set_option maxRecDepth 100000 in
set_option maxHeartbeats 400000 in
theorem index_any {w : World} {g n : Nat} {cap : Nat} {l : List Bool} (hn : l.length = n) (hx : ∀ i, (h : i < l.length) → w.cell? ⟨g, i, none⟩ = some (.bool l[i])) (hl : l.length ≤ 1000000) :
    Calls Try.prog 45 #[.slice (some ⟨g, 0, none⟩) n cap, .bool false] w fun e w' => e = .returned (.int .i64 (idxF l 0)) ∧ w = w' := by
  subst hn
  have HX := hid hx
  clear hx
  go_enter Try.func45, Try.ntmps45
  go_wp2_with fail
  go_loop [5, 8] (fun _ i => ∃ k : Nat, k ≤ l.length ∧ i = .int .i64 k ∧ ∀ j, (h : j < k) → (h' : j < l.length) → l[j] = true) (fun _ i => l.length - (intOf i).toNat)
  case atStart => exact ⟨0, Nat.zero_le _, rfl, fun j hj => by omega⟩
  case round =>
    obtain ⟨k, hk, rfl, hall⟩ := hrel
    have HA := hid hall
    clear hall
    by_cases hlt : k < l.length
    · have cx := HX.out k hlt
      cases hb : l[k] with
      | true =>
        rw [hb] at cx
        have HB := hid hb
        clear hb
        go_wp2_with fail
        go_round
        case rel =>
          refine ⟨k + 1, by omega, by go_num, fun j hj hj' => ?_⟩
          by_cases e : j = k
          · subst e; exact HB.out
          · exact HA.out j (by omega) hj'
        case measure => simp [intOf]; omega
      | false =>
        rw [hb] at cx
        have HB := hid hb
        clear hb
        go_wp2_with fail
        go_ret
        refine ⟨ret_int ?_, rfl⟩
        rw [idxF_at l 0 k hlt (fun j hj => HA.out j hj (by omega)) HB.out, Nat.zero_add]
    · go_wp2_with fail
      go_ret
      refine ⟨ret_int ?_, rfl⟩
      rw [idxF_all l 0]
      intro b hb
      obtain ⟨j, hj, rfl⟩ := List.getElem_of_mem hb
      exact HA.out j (by omega) hj

/-- n is the least tid that nobody has -/
def IsFree (cr : Crew) (n : Nat) : Prop := (∀ x ∈ cr, x.2.1 ≠ (n : Int)) ∧ ∀ i, i < n → ∃ x ∈ cr, x.2.1 = (i : Int)

/-- what has been marked -/
def MarkB (w : World) (g : Nat) (n : Nat) (cr : Crew) (vis : Nat → Bool) : Prop :=
  ∃ (arr : Array Value) (u : Nat → Bool), w.heap[g]? = some (.cells arr 4 (0, 0)) ∧ (∀ i, i < n → arr[i]? = some (.bool (u i))) ∧ ∀ i : Nat, u i = true ↔ ∃ j, ∃ h : j < cr.length, vis j = true ∧ cr[j].2.1 = (i : Int)

theorem MarkB.keep {w w' g n cr vis} (h : MarkB w g n cr vis) (hk : w'.heap[g]? = w.heap[g]?) : MarkB w' g n cr vis := by
  obtain ⟨arr, u, a, b, c⟩ := h; exact ⟨arr, u, hk.trans a, b, c⟩
theorem MarkB.cell {w g n vis} {cr : Crew} (h : MarkB w g n cr vis) {i : Nat} (hi : i < n) : ∃ b, w.cell? ⟨g, i, none⟩ = some (.bool b) ∧ w.frozen? ⟨g, i, none⟩ = false := by
  obtain ⟨arr, u, a, b, _⟩ := h
  exact ⟨u i, (cell_blk a i).trans (b i hi), froz_blk a i⟩
theorem MarkB.start {w g n} {cr : Crew} (h : w.heap[g]? = some (.cells (Array.replicate n (.bool false)) 4 (0, 0))) : MarkB w g n cr (fun _ => false) :=
  ⟨_, fun _ => false, h, fun i hi => by simp [hi], fun i => by simp⟩
theorem MarkB.mark {w g n vis} {cr : Crew} (h : MarkB w g n cr vis) {j : Nat} (hj : j < cr.length) {i : Nat} (hi : cr[j].2.1 = (i : Int)) (hn : i < n) :
    MarkB (w.setCell ⟨g, i, none⟩ (.bool true)) g n cr (upd vis j true) := by
  obtain ⟨arr, u, a, b, c⟩ := h
  refine ⟨_, upd u i true, heap_setCell_eq a i _, ?_, ?_⟩
  · intro k hk
    rw [Array.getElem?_setIfInBounds]
    have := b k hk
    unfold upd
    by_cases e : i = k
    · subst e
      have hs : i < arr.size := by
        rcases Nat.lt_or_ge i arr.size with g | g
        · exact g
        · simp [Array.getElem?_eq_none g] at this
      simp [hs]
    · rw [if_neg e, if_neg (Ne.symm e)]; exact this
  · intro k
    unfold upd
    by_cases e : k = i
    · subst e; simp only [if_true, true_iff]; exact ⟨j, hj, by simp, hi⟩
    · rw [if_neg e, c k]
      constructor
      · rintro ⟨j', h', v, e'⟩; exact ⟨j', h', by split; rfl; exact v, e'⟩
      · rintro ⟨j', h', v, e'⟩
        by_cases ej : j' = j
        · subst ej; rw [hi] at e'; omega
        · rw [if_neg ej] at v; exact ⟨j', h', v, e'⟩

theorem least_free {u : Nat → Bool} {n : Nat} (h : ∃ i, i < n ∧ u i = false) : ∃ k, k < n ∧ u k = false ∧ ∀ j, j < k → u j = true := by
  obtain ⟨i, hi, hu⟩ := h
  induction i using Nat.strongRecOn with
  | ind i ih =>
    by_cases hj : ∃ j, j < i ∧ u j = false
    · obtain ⟨j, h1, h2⟩ := hj; exact ih j h1 (by omega) h2
    · refine ⟨i, hi, hu, fun j hj' => ?_⟩
      cases e : u j
      · exact absurd ⟨j, hj', e⟩ hj
      · rfl

theorem MarkB.done {w g} {cr : Crew} {vis} {t : Nat} (h : MarkB w g (t + 1) cr vis) (hv : ∀ j, j < cr.length → vis j = true) (hr : ∀ x ∈ cr, x.2.1 < (t : Int)) :
    ∃ l : List Bool, l.length = t + 1 ∧ (∀ i, (h : i < l.length) → w.cell? ⟨g, i, none⟩ = some (.bool l[i])) ∧ ∃ n : Nat, idxF l 0 = (n : Int) ∧ IsFree cr n ∧ n ≤ t := by
  obtain ⟨arr, u, a, b, c⟩ := h
  have ht : u t = false := by
    cases e : u t
    · rfl
    · obtain ⟨j, h, _, e'⟩ := (c t).1 e
      have := hr cr[j] (List.getElem_mem h); omega
  obtain ⟨k, hk, huk, hul⟩ := least_free ⟨t, Nat.lt_succ_self t, ht⟩
  refine ⟨(List.range (t + 1)).map u, by simp, ?_, k, ?_, ?_, by omega⟩
  · intro i hi
    have hi' : i < t + 1 := by simpa using hi
    rw [cell_blk a i, b i hi']; simp
  · rw [idxF_at _ 0 k (by simpa using hk) (fun j hj => by simpa using hul j hj) (by simpa using huk), Nat.zero_add]
  · refine ⟨fun x hx e => ?_, fun i hi => ?_⟩
    · obtain ⟨j, hj, rfl⟩ := List.getElem_of_mem hx
      have := (c k).2 ⟨j, hj, hv j hj, e⟩
      rw [huk] at this; cases this
    · obtain ⟨j, h, _, e⟩ := (c i).1 (hul i hi)
      exact ⟨cr[j], List.getElem_mem h, e⟩

theorem free_step {w wr w3 : World} {it r g n : Nat} {cr : Crew} {vis : Nat → Bool} {c' j i : Nat} (hgn : g ≠ it) (hne : it ≠ r) (hgr : g ≠ r) (hI : MIt w3 it r (crewL cr) (upd vis j true) c') (hM : MarkB w3 g n cr vis) (hO : Only it wr w3)
    (hF : Fr (fun _ => False) w wr) (hs : w.heap.size + 2 ≤ wr.heap.size) (hj : j < cr.length) (hi : cr[j].2.1 = (i : Int)) (hn : i < n) (o : Obj) (hg : g = w.heap.size := by rfl) (hit : w.heap.size ≤ it := by omega) :
    MIt ((w3.setCell ⟨g, i, none⟩ (.bool true)).alloc o) it r (crewL cr) (upd vis j true) c' ∧ MarkB ((w3.setCell ⟨g, i, none⟩ (.bool true)).alloc o) g n cr (upd vis j true) ∧
    Fr (fun _ => False) w ((w3.setCell ⟨g, i, none⟩ (.bool true)).alloc o) ∧ w.heap.size + 2 ≤ ((w3.setCell ⟨g, i, none⟩ (.bool true)).alloc o).heap.size := by
  have hsz : (w3.setCell ⟨g, i, none⟩ (.bool true)).heap.size = w3.heap.size := by simp
  obtain ⟨es, k, seen, h1, h2, _⟩ := hI.ex
  have hitl := heap_lt h1
  have hrl := heap_lt h2.hd
  refine ⟨hI.keep ?_ ?_, (hM.mark hj hi hn).keep ?_, ((hO.fr hF (.inr hit)).setCell (.inr (by simp [hg])) _).alloc _, by simp [hO.size]; omega⟩
  · rw [heap_alloc_lt _ _ (by omega), heap_setCell_ne _ _ _ (Ne.symm hgn)]
  · rw [heap_alloc_lt _ _ (by omega), heap_setCell_ne _ _ _ (Ne.symm hgr)]
  · rw [heap_alloc_lt _ _ (by rw [hsz, hO.size]; omega)]

def FreePost (w : World) (cr : Crew) (t : Int) (e : Ending) (w' : World) : Prop :=
  ∃ n : Nat, e = .returned (.int .i64 n) ∧ IsFree cr n ∧ (n : Int) ≤ t ∧ Fr (fun _ => False) w w'

theorem Try.infoBool : ∃ i, Try.prog.info? 4 = some i ∧ i.zero = some (.bool false) ∧ i.size = 1 ∧ i.bytes = 1 :=
  info_parts (show (Try.prog.info? 4).map (fun i => (i.zero, i.size, i.bytes)) = some (some (.bool false), 1, 1) by kernel_rfl)

set_option maxRecDepth 100000 in
set_option maxHeartbeats 400000 in
theorem free_any {w : World} {wp r : Nat} {t m : Int} {cr : Crew} {M F} (h : WSt w wp r t m cr M F) : Calls Try.prog 29 #[ptr wp] w (FreePost w cr t) := by
  obtain ⟨ib, hib, hz0, hz1, hz2⟩ := Try.infoBool
  obtain ⟨tn, rfl⟩ : ∃ n : Nat, t = n := ⟨t.toNat, by have := h.tb; omega⟩
  have htb := h.tb
  have c0 := h.c0
  have c2 := h.c2
  have hwl : wp < w.heap.size := heap_lt h.hd
  have H := hid h
  obtain ⟨es, k, hm⟩ := h.mp
  have hrl := heap_lt hm.hd
  have HM := hid hm
  clear h hm
  go_enter Try.func29, Try.ntmps29
  go_upto_region 2 with (at_make; go_must (refine wpList_make1 _ rfl _ _ 89 rfl 4 ib (.bool false) Try.underlying89 hib hz0 hz1 rfl .i64 .i64 _ _ (tn + 1) rfl rfl (by omega) (by omega) (by rw [hz2]; omega) (by omega) ?_); intro w1 g1 s1 b1)
  have c2' := (cell_same (b1.block wp hwl) 2).trans c2
  have hm1 := HM.out.keep (b1.block r hrl)
  obtain ⟨hR, hI⟩ := run_range (P := Try.prog) hm1 Try.underlying61
  have HI := hid hI
  have G1 := hid g1
  have HM1 := hid hm1
  have hM0 := MarkB.start (cr := cr) g1
  have HM0 := hid (hM0.keep (w' := w1.alloc (.mapIter (some r) k #[] k)) (heap_alloc_lt _ _ (by omega)))
  have HF0 := hid ((Fr.ofBelow b1 (fun _ => False)).alloc (.mapIter (some r) k #[] k))
  have hs1 : w.heap.size + 2 ≤ (w1.alloc (.mapIter (some r) k #[] k)).heap.size := by simp; omega
  clear hI g1 hm1 hM0
  go_wp2_with fail
  generalize w1.alloc (.mapIter (some r) k #[] k) = w2 at *
  obtain ⟨it, hit⟩ : ∃ it, it = w.heap.size + 1 := ⟨_, rfl⟩
  rw [s1, ← hit] at HI
  rw [← hit]
  have hne : it ≠ r := by omega
  have hgn : w.heap.size ≠ it := by omega
  have hitw : w.heap.size ≤ it := by omega
  clear hR HM1 hit c2' b1 s1
  go_loopw [5] (fun _ wr => ∃ vis c, MIt wr it r (crewL cr) vis c ∧ MarkB wr w.heap.size (tn + 1) cr vis ∧ Fr (fun _ => False) w wr ∧ w.heap.size + 2 ≤ wr.heap.size) (fun _ wr => mleft wr it r)
  case atStart => exact ⟨_, _, HI.out, HM0.out, HF0.out, hs1⟩
  case round =>
    obtain ⟨vis, c, hI, hM, hF, hs⟩ := hrel
    have HI' := hid hI
    have HM' := hid hM
    have HF' := hid hF
    have HL := hid hI.left
    clear hI hM hF HI HM0 HF0
    have hrng := hid H.out.rng
    go_wp2_with (at_next; refine wpList_next_crew _ rfl _ rfl it r cr vis c rfl HI'.out hne (fun _ hv => ?_) (fun j c' w3 hj hvj hc hI3 hO3 hE3 => ?_); have HV := hid hv; clear hv; rotate_left; (obtain ⟨i, hi, hin⟩ : ∃ i : Nat, cr[j].2.1 = (i : Int) ∧ i < tn := ⟨cr[j].2.1.toNat, by have := hrng.out cr[j] (List.getElem_mem hj); omega, by have := hrng.out cr[j] (List.getElem_mem hj); omega⟩); rw [hi] at hE3 ⊢; (have M3 := HM'.out.keep (hO3.block w.heap.size hgn)); (obtain ⟨b3, cb, fb⟩ := M3.cell (i := i) (by omega)); (have hs3 : w.heap.size < w3.heap.size := by rw [hO3.size]; omega); have HM3 := hid M3; have HI3 := hid hI3; have HO3 := hid hO3; have Hi := hid hi; clear M3 hI3 hO3 hi; rotate_right)
    · obtain ⟨l, hl, hcx, n, hn, hfree, hle⟩ := HM'.out.done HV.out (fun x hx => (hrng.out x hx).2)
      refine (index_any hl hcx (by omega)).mono ?_
      rintro e w' ⟨rfl, rfl⟩
      clear hcx
      go_wp2_with fail
      go_ret
      exact ⟨n, rfl, hfree, by omega, HF'.out⟩
    · go_roundw
      case rel =>
        exact ⟨_, c', free_step hgn hne (by omega) HI3.out HM3.out HO3.out HF'.out hs hj Hi.out (by omega) _⟩
      case measure =>
        rw [(free_step hgn hne (by omega) HI3.out HM3.out HO3.out HF'.out hs hj Hi.out (by omega) _).1.left, HL.out]
        exact hc
end Go.Proofs.Ytepdifajieegeaa
