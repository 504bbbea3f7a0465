/- (*Watch).All: all who have a tid, in their order. No condition. -/
import Derived.Test.YtepdifajieegeaaWatK
import Derived.Test.YtepdifajieegeaaShelf
import Derived.Test.YtepdifajieegeaaKeys
namespace Go.Proofs.Ytepdifajieegeaa
open Go.RowKit Go.Maps Go.Sort Go.Shelf
open Go.WideElems (Fit rd rg pl rg_of)

/-- whatever an element is, it reads as this -/
def anyR (_ : Value) : Option (DataW Unit × List MemPlace) := some (.lit (.bool true), [])
def keyD (x : MapEntry) : Lit × DataW Unit := (match x.key with | .int _ a => .int .i64 a | _ => .bool false, .lit (.bool true))

theorem insert_keys {H : Type} (x : Lit × DataW H) : ∀ l : List (Lit × DataW H), (DataW.insert x l).Perm (x :: l)
  | [] => List.Perm.refl _
  | y :: l => by
    unfold DataW.insert
    split
    · exact List.Perm.refl _
    · exact ((insert_keys x l).cons y).trans (List.Perm.swap _ _ _)
theorem foldr_insert_perm {H : Type} (l : List (Lit × DataW H)) : (l.foldr DataW.insert []).Perm l := by
  induction l with
  | nil => exact List.Perm.refl _
  | cons x l ih => exact (insert_keys x _).trans (ih.cons x)

theorem owns_of_imap {w : World} {r : Nat} {L : PL} {es : Array MapEntry} {k : Nat} (h : IMap w r L es k) (hnd : (L.map (·.1)).Nodup) (hw : ∀ x ∈ L, (Lit.int .i64 x.1).wf = true) (hl : L.length ≤ maxLen) :
    ∃ D : DataW Unit, w.ownsMap Try.prog 3 anyR r L.length D ∧ (intKeys D).Perm (L.map (·.1)) ∧ Maps.size D = L.length := by
  have hlen : es.size = L.length := by have := congrArg List.length h.ents; simpa using this
  have hkey : ∀ e ∈ es.toList, ∃ x ∈ L, e.key = .int .i64 x.1 ∧ e.val = x.2 := by
    intro e he
    have : (e.key, e.val) ∈ es.toList.map (fun e => (e.key, e.val)) := List.mem_map_of_mem he
    rw [h.ents, List.mem_map] at this
    obtain ⟨x, hx, e2⟩ := this
    simp only [entryOf, Prod.mk.injEq] at e2
    exact ⟨x, hx, e2.1.symm, e2.2.symm⟩
  have hrd : ∀ e ∈ es.toList, WideElems.rd Try.prog 3 anyR e = some (keyD e) := by
    intro e he
    obtain ⟨x, hx, e1, e2⟩ := hkey e he
    have hk : keyOf Try.prog 3 e.key = some (.int .i64 x.1) := by
      rw [e1]
      simp [keyOf, Try.underlying3, mapKey, hw x hx]
    rw [e1] at hk
    simp [WideElems.rd, hk, anyR, keyD, e1]
  have hmap : es.toList.map (rg Try.prog 3 anyR) = es.toList.map keyD := List.map_congr_left fun e he => rg_of (hrd e he)
  have hkeys : es.toList.map (fun e => Go.intOf (keyD e).1) = L.map (·.1) := by
    have := congrArg (List.map (fun x : Value × Value => match x.1 with | .int _ a => a | _ => 0)) h.ents
    simp only [List.map_map] at this
    rw [show (L.map (·.1)) = L.map ((fun x : Value × Value => match x.1 with | .int _ a => a | _ => 0) ∘ entryOf) from List.map_congr_left fun x _ => rfl, ← this]
    refine List.map_congr_left fun e he => ?_
    obtain ⟨x, hx, e1, e2⟩ := hkey e he
    simp [keyD, e1, Go.intOf]
  refine ⟨_, ⟨es, k, h.hd, ⟨by omega, ?_, fun e he => ⟨_, hrd e he⟩⟩, by omega, rfl⟩, ?_, ?_⟩
  · refine ⟨h.lt, h.nd, ?_⟩
    have e1 : es.toList.map (·.key) = (L.map (·.1)).map (Value.int .i64) := by
      have := congrArg (List.map (·.1)) h.ents
      simpa [List.map_map, Function.comp_def, entryOf] using this
    rw [e1]
    exact List.Pairwise.map _ (fun a b hab => by simpa using hab) hnd
  · rw [hmap]
    have := (foldr_insert_perm (es.toList.map keyD)).map (fun p => Go.intOf p.1)
    have h2 : es.toList.map ((fun p => Go.intOf p.1) ∘ keyD) = L.map (·.1) := hkeys
    rw [List.map_map, h2] at this
    simpa [intKeys] using this
  · rw [hmap]
    have := (foldr_insert_perm (es.toList.map keyD)).length_eq
    simp only [Maps.size]
    simp at this; omega

theorem nodup_len : ∀ (t : Nat) (l : List Int), l.Nodup → (∀ x ∈ l, 0 ≤ x ∧ x < (t : Int)) → l.length ≤ t
  | 0, [], _, _ => Nat.le_refl _
  | 0, x :: l, _, h => by have := h x (by simp); omega
  | t + 1, l, hn, h => by
    by_cases ht : (t : Int) ∈ l
    · have h1 := nodup_len t (l.erase (t : Int)) (hn.erase _) (fun x hx => by
        have h2 := (hn.mem_erase_iff).1 hx
        have h3 := h x h2.2
        have h4 := h2.1
        omega)
      rw [List.length_erase_of_mem ht] at h1
      omega
    · have h1 := nodup_len t l hn (fun x hx => by
        have h3 := h x hx
        have h4 : x ≠ (t : Int) := fun e => ht (e ▸ hx)
        omega)
      omega
theorem WSt.len {w wp r t m cr M F} (h : WSt w wp r t m cr M F) : (cr.length : Int) ≤ t := by
  have h1 := nodup_len t.toNat (cr.map (·.2.1)) h.tids (fun x hx => by
    obtain ⟨y, hy, rfl⟩ := List.mem_map.1 hx
    have := h.rng y hy
    have := h.tb
    omega)
  have := h.tb
  simp at h1
  omega

/-- slices.Sort at this dump, at the fence that asks nothing. -/
theorem sortsA (m : Nat) : AnyZI.SortsIn Try.prog Try.sortedA_ren Fence.wide m :=
  ⟨fun blk off cap ss W hH hblk hsz => callsIn_wide.2 (Try.slices_Sort_int blk off cap ss W hH hblk hsz),
   fun p cap W => callsIn_wide.2 (Try.slices_Sort_int_none p cap W)⟩


set_option maxRecDepth 100000 in
set_option maxHeartbeats 1000000 in
theorem all_any {w wp r t m cr M F} (h : WSt w wp r t m cr M F) (hw : ∀ x ∈ cr, (Lit.int .i64 x.1).wf = true) :
    Calls Try.prog 20 #[ptr wp] w fun e w' => ∃ v l, e = .returned v ∧ l.Perm (cr.map (·.1)) ∧ IntsR w' v l (fun b => w.heap.size ≤ b) ∧ Fr (fun _ => False) w w' := by
  refine (callsIn_wide (n := 6)).1 ?_
  obtain ⟨es, k, hm⟩ := h.mp
  have hlen := h.len
  have htb := h.tb
  have hcl : (crewL cr).length = cr.length := by simp [crewL]
  have hck : (crewL cr).map (·.1) = cr.map (·.1) := by simp [crewL]
  obtain ⟨D, hown, hperm, hsz⟩ := owns_of_imap hm (by rw [hck]; exact h.keys) (fun x hx => by
    obtain ⟨y, hy, rfl⟩ := List.mem_map.1 hx
    exact hw y hy) (by rw [hcl]; unfold maxLen; omega)
  rw [hck] at hperm
  rw [hcl] at hown hsz
  have hbl := hown.lt
  have h0 := h.c0
  have h1 := h.c1
  have h2 := h.c2
  have hseq : SeqGives Fence.wide 2 Try.prog 55 #[.pointer (some ⟨w.heap.size, 0, none⟩)] encZ (fun ss => ss.Perm (intKeys D)) (Maps.size D) (w.alloc (.cells #[.map (some r)] 61)) :=
    AnyZI.keys_gives (ρ := Try.keysA_ren) { Try.keysA with } Fence.wide _ trivial rfl (by omega) w.heap.size r cr.length D _ (by simp) (by simp) (by
      obtain ⟨es, clock, hb, Ft, hs, hD⟩ := hown
      exact ⟨es, clock, (Below.heap_alloc _ _ r hbl).trans hb, Ft, hs, hD⟩)
  have cK : ∀ mb W, CallsIn Fence.wide 5 Try.prog 42 #[.map mb] W fun e w' => e = .returned (.func (.func 55) #[] #[.pointer (some ⟨W.heap.size, 0, none⟩)]) ∧ w' = W.alloc (.cells #[.map mb] 61) := fun mb W => AnyZI.keys_in Try.keysA Fence.wide 5 trivial rfl mb W
  have cS := AnyZI.sorted_in Try.sortedA Fence.wide 5 trivial trivial trivial trivial rfl (by omega) (sortsA _) (enters_of Try.func54 (by kernel_rfl) rfl) 55 #[.pointer (some ⟨w.heap.size, 0, none⟩)] trivial (enters_of Try.func55 (by kernel_rfl) rfl) _ _ (by rw [hsz]; unfold maxLen; omega) (by rw [hsz]; omega) _ hseq
  change CallsIn _ _ Try.prog 41 _ _ _ at cS
  have hfK : Fence.wide.fn 42 := trivial
  have hfS : Fence.wide.fn 41 := trivial
  refine callsIn_of_wp Try.func20 rfl trivial ?_ rfl
  simp only [Try.ntmps20, List.size_toArray, List.length_cons, List.length_nil, Nat.reduceAdd, Nat.reduceSub, Array.replicate_succ, Array.replicate_zero, List.push_toArray, List.append_toArray, List.nil_append, List.cons_append]
  gi_wp2_with (first
    | (gi_at_call 42; refine (cK _ _).mono ?_; rintro e w' ⟨rfl, rfl⟩)
    | (gi_at_call 41; refine cS.mono ?_; rintro e w' ⟨v, ss, rfl, hS, hrow, hnil, hb⟩))
  go_ret
  refine ⟨v, ss.mergeSort (fun x y => decide (x ≤ y)), rfl, (List.mergeSort_perm _ _).trans (hS.trans hperm), ?_, ?_⟩
  · refine (IntsR.ofRow (n := ss.length) hrow).mono fun b hb _ => ?_
    simp at hb
    omega
  · exact ((Fr.refl _ _).alloc _).trans (Fr.ofBelow hb _) (fun _ f _ => f)
end Go.Proofs.Ytepdifajieegeaa
