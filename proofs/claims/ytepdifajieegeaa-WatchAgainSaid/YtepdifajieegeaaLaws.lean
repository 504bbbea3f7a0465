/- Laws at operations, in the form that these walks take: worlds as variables. No condition. -/
import Derived.Test.YtepdifajieegeaaBase
import Derived.Laws.CopyOwn
import Derived.Laws.AppendOwnNone
import Derived.Deep.Cut
import Derived.Deep.CutRange
import Derived.Deep.CutBlock
import Derived.Deep.DeepCutAuto
import Derived.Deep.DeepFit
import Derived.Deep.QuietTactic
import Derived.BigQuiet
import Derived.StillTailTactics
import Derived.Deep.RegionWith
import Derived.Maps.RangeWalk
namespace Go.Proofs.Ytepdifajieegeaa
open Go.RowKit

/-- The world has turned in block g alone. -/
structure Only (g : Nat) (w w' : World) : Prop where
  os : w'.os = w.os
  tape : w'.tape = w.tape
  output : w'.output = w.output
  size : w'.heap.size = w.heap.size
  block : ∀ k, k ≠ g → w'.heap[k]? = w.heap[k]?

theorem Only.fr {F : Nat → Prop} {a w w' : World} {g : Nat} (h : Only g w w') (k : Fr F a w) (hg : F g ∨ a.heap.size ≤ g) : Fr F a w' :=
  k.trans (G := fun n => n = g) ⟨h.os, h.tape, h.output, Nat.le_of_eq h.size.symm, fun n _ hn => h.block n hn⟩ (fun n e hn => by cases e; rcases hg with hg | hg; exact hg; omega)
theorem Only.refl (g : Nat) (w : World) : Only g w w := ⟨rfl, rfl, rfl, rfl, fun _ _ => rfl⟩

theorem Only.cell {g : Nat} {w w' : World} (h : Only g w w') {p i : Nat} (hp : p ≠ g) : w'.cell? ⟨p, i, none⟩ = w.cell? ⟨p, i, none⟩ := by
  simp only [World.cell?, h.block p hp]
theorem Only.frozen {g : Nat} {w w' : World} (h : Only g w w') {p i : Nat} (hp : p ≠ g) : w'.frozen? ⟨p, i, none⟩ = w.frozen? ⟨p, i, none⟩ := by
  simp only [World.frozen?, h.block p hp]
theorem cell_same {w w' : World} {p : Nat} (h : w'.heap[p]? = w.heap[p]?) (i : Nat) : w'.cell? ⟨p, i, none⟩ = w.cell? ⟨p, i, none⟩ := by
  simp only [World.cell?, h]
theorem frozen_same {w w' : World} {p : Nat} (h : w'.heap[p]? = w.heap[p]?) (i : Nat) : w'.frozen? ⟨p, i, none⟩ = w.frozen? ⟨p, i, none⟩ := by
  simp only [World.frozen?, h]

/-- a slice of ints that can be read; its block meets B -/
def IntsR (w : World) (v : Value) (l : List Int) (B : Nat → Prop) : Prop :=
  ∃ sp cap, v = .slice sp l.length cap ∧ ∀ i, (h : i < l.length) → ∃ b off, sp = some ⟨b, off, none⟩ ∧ B b ∧ w.cell? ⟨b, off + i, none⟩ = some (.int .i64 l[i])
theorem IntsR.keep {w w' : World} {v : Value} {l : List Int} {B : Nat → Prop} (h : IntsR w v l B) (hk : ∀ b, B b → b < w.heap.size → w'.heap[b]? = w.heap[b]?) : IntsR w' v l B := by
  obtain ⟨sp, cap, e, h⟩ := h
  refine ⟨sp, cap, e, fun i hi => ?_⟩
  obtain ⟨b, off, e1, hb, hc⟩ := h i hi
  exact ⟨b, off, e1, hb, by rw [cell_same (hk b hb (World.block_lt_of_cell? _ _ hc))]; exact hc⟩
theorem IntsR.mono {w : World} {v : Value} {l : List Int} {B C : Nat → Prop} (h : IntsR w v l B) (hk : ∀ b, B b → b < w.heap.size → C b) : IntsR w v l C := by
  obtain ⟨sp, cap, e, h⟩ := h
  refine ⟨sp, cap, e, fun i hi => ?_⟩
  obtain ⟨b, off, e1, hb, hc⟩ := h i hi
  exact ⟨b, off, e1, hk b hb (World.block_lt_of_cell? _ _ hc), hc⟩
theorem IntsR.ofRow {w : World} {base e : Nat} {v : Value} {n : Nat} {l : List Int} (h : w.ownsRow base e 1 v n (l.map (Value.int .i64))) : IntsR w v l (fun b => base ≤ b) := by
  obtain ⟨hl, h⟩ := h
  have hn : l.length = n := by simpa using hl
  rcases h with ⟨rfl, h0⟩ | ⟨g, cap, cur, rfl, hg, hh, _, _, _, ht⟩
  · refine ⟨none, 0, by rw [hn, h0], fun i hi => by omega⟩
  · refine ⟨_, cap, by rw [hn], fun i hi => ⟨g, 0, rfl, hg, ?_⟩⟩
    rw [Nat.zero_add, cell_blk hh i]
    have : (cur.toList.take (n * 1))[i]? = some (.int .i64 l[i]) := by rw [ht]; simp [hi]
    rw [List.getElem?_take, if_pos (by omega)] at this
    simpa using this

theorem owns_shape {w : World} {base e sz : Nat} {v : Value} {n : Nat} {cs : List Value} (h : w.ownsRow base e sz v n cs) : ∃ sp cap, v = .slice sp n cap := by
  rcases h.2 with ⟨rfl, rfl⟩ | ⟨g, cap, cur, rfl, _⟩
  · exact ⟨none, 0, rfl⟩
  · exact ⟨_, cap, rfl⟩

theorem quiet_eq {P : Program} {f : FuncId} {args : Array Value} {w : World} {n : Nat} {v : Value}
    (h : Calls P f args (w.drewN n) fun e w' => e = .returned v ∧ w.drewN n = w') : Calls P f args (w.drewN n) fun e w'' => e = .returned v ∧ ∃ m, w'' = w.drewN m :=
  h.mono fun _ _ ⟨he, hm⟩ => ⟨he, n, hm.symm⟩
theorem Fr.drewN {F : Nat → Prop} {a w : World} (h : Fr F a w) (n : Nat) : Fr F a (w.drewN n) := ⟨h.os, h.tape, h.output, h.size, h.keep⟩

theorem madeCells_one (z : Value) (n : Nat) : madeCells #[z] n = Array.replicate n z := by
  apply Array.ext
  · simp [madeCells]
  · intro i h1 h2
    simp [madeCells, Nat.mod_one]

section
variable {P : Program} (w : World) {ops : Array Oper} {rest : List Oper} {o : Oper} {a : Act} {Q : Exit → Act → World → Prop}

/-- 'make([]T, n)', T of one cell: a new block of n zeros -/
theorem wpList_make1 (hg : o.guard = none) (l c : Operand) (t : TypeId) (hop : o.op = Op.makeSlice t l c)
    (e : TypeId) (i : TypeInfo) (z : Value) (h1 : P.underlying t = some (.slice e)) (h2 : P.info? e = some i) (h3 : i.zero = some z) (h4 : i.size = 1) (hz : z.cells = #[z])
    (kl kc : IntKind) (L C : Int) (n : Nat) (hl : a.eval l = .int kl L) (hc : a.eval c = .int kc C) (hL : L = (n : Int)) (hC : C = (n : Int)) (b2 : i.bytes * n ≤ 281474976710656) (b3 : n ≤ 9223372036854775807)
    (hK : ∀ w', w'.heap[w.heap.size]? = some (.cells (Array.replicate n z) e (0, 0)) → w'.heap.size = w.heap.size + 1 → Below w.heap.size w w' → wpList P ops Q rest (a.put o.dst (.slice (some ⟨w.heap.size, 0, none⟩) n n)) w') :
    wpList P ops Q (o :: rest) a w := by
  refine wpList_plain hg fun K hK' => ?_
  subst hL
  subst hC
  have hb' : (i.bytes : Int) * (n : Int) ≤ 281474976710656 := by
    have h : ((i.bytes * n : Nat) : Int) ≤ 281474976710656 := by omega
    rwa [Int.natCast_mul] at h
  have hr := run_make (P := P) w t e i z h1 h2 h3 kl kc n n (by omega) (Int.le_refl _) hb' (by omega)
  simp only [Int.toNat_natCast, h4, Nat.mul_one, hz, madeCells_one] at hr
  unfold Oper.wp
  simp [execOp, hop, hl, hc, hr, Result.andThen]
  exact hK' _ _ (hK _ (heap_alloc_new _ _) (by simp) ⟨rfl, rfl, rfl, by simp, fun k hk => heap_alloc_lt _ _ hk⟩)

/-- 'copy' of integers onto the head of a row that is known -/
theorem wpList_copy_ints (hg : o.guard = none) (d s : Operand) (t : TypeId) (ho : o.op = .call { callee := .builtin .copy, args := #[d, s], argTypes := #[t, t] }) (elem : TypeId) (hu : P.underlying t = some (.slice elem))
    (hsz : (P.info? elem).map (·.size) = some 1)
    (g dLen dCap sCap : Nat) (sp : Option Addr) (xs : List Int) (k : IntKind) (hd : a.eval d = .slice (some ⟨g, 0, none⟩) dLen dCap) (hs : a.eval s = .slice sp xs.length sCap)
    (cur : Array Value) (te : TypeId) (hgb : w.heap[g]? = some (.cells cur te (0, 0))) (hle : xs.length ≤ dLen) (hfit : xs.length ≤ cur.size)
    (hsrc : ∀ i, (h : i < xs.length) → ∃ b off, sp = some ⟨b, off, none⟩ ∧ w.cell? ⟨b, off + i, none⟩ = some (.int k xs[i]))
    (hK : ∀ w', w'.heap[g]? = some (.cells ((xs.map (Value.int k)) ++ cur.toList.drop xs.length).toArray te (0, 0)) → Only g w w' → wpList P ops Q rest (a.put o.dst (goInt xs.length)) w') :
    wpList P ops Q (o :: rest) a w := by
  by_cases h0 : xs = []
  · subst h0
    refine wpList_copy_nothing hg d s t t ho elem hu hsz (some ⟨g, 0, none⟩) sp dLen dCap 0 sCap hd hs (by simp) ?_
    exact hK w (by simpa using hgb) (Only.refl _ _)
  · have hpos : 0 < xs.length := by cases xs; exact absurd rfl h0; simp
    obtain ⟨b, off, rfl, _⟩ := hsrc 0 hpos
    refine wpList_copy_own hg d s t t ho elem hu hsz g 0 dLen dCap ⟨b, off, none⟩ xs.length sCap hd hs cur te hgb (xs.map (Value.int k)) (by show _ = min xs.length dLen; simp; omega) ?_ (by simpa using hfit) (ints_oneCell k xs) ?_
    · intro j v hj
      obtain ⟨hj1, rfl⟩ := List.getElem?_eq_some_iff.1 hj
      obtain ⟨b', off', e, hc⟩ := hsrc j (by simpa using hj1)
      cases e
      rw [Addr.add_lit, hc]; simp
    · have hh := setRow_heap w g cur (xs.map (Value.int k) ++ cur.toList.drop xs.length).toArray te (0, 0) hgb
      have := hK _ hh ⟨rfl, rfl, rfl, by simp [World.setRow], fun n hn => setRow_other w g n _ hn⟩
      simpa using this

/-- 'append(s, x...)' of integers, s a row of one's own (or nil): what comes is a row of one's own -/
theorem wpList_append_ints (hg : o.guard = none) (s x : Operand) (t : TypeId) (ho : o.op = .call { callee := .builtin .append, args := #[s, x], argTypes := #[t, t] })
    (base : Nat) (e : TypeId) (i : TypeInfo) (k : IntKind) (by_ : Nat) (ht : P.underlying t = some (.slice e)) (hi : P.info? e = some i) (hz : i.zero = some (.int k 0)) (hsize : i.size = 1) (hby : i.bytes = by_)
    (v : Value) (n : Nat) (ys : List Int) (hs : a.eval s = v) (hown : w.ownsRow base e 1 v n (ys.map (Value.int k)))
    (sp : Option Addr) (c : Nat) (xs : List Int) (hx : a.eval x = .slice sp xs.length c) (hnil : sp = none → c = 0)
    (hsrc : ∀ j, (h : j < xs.length) → ∃ b off, sp = some ⟨b, off, none⟩ ∧ w.cell? ⟨b, off + j, none⟩ = some (.int k xs[j]))
    (h63 : n + xs.length ≤ 1000000000) (hb8 : by_ ≤ 8) (hbase : base ≤ w.heap.size)
    (h : ∀ v' w', w'.ownsRow base e 1 v' (n + xs.length) ((ys ++ xs).map (Value.int k)) → w.grownBy w' v.ownBlock → wpList P ops Q rest (a.put o.dst v') w') : wpList P ops Q (o :: rest) a w := by
  cases sp with
  | none =>
    have hxs : xs = [] := by
      cases xs with
      | nil => rfl
      | cons y ys => obtain ⟨b, off, e, _⟩ := hsrc 0 (by simp); cases e
    subst hxs
    obtain rfl := hnil rfl
    refine wpList_append_own_none hg s x t ho base e i 1 ht hi v n _ hs hown (by simpa using hx) ?_
    exact h v w (by simpa using hown) ⟨rfl, rfl, rfl, Nat.le_refl _, fun _ _ _ => rfl⟩
  | some ad =>
    refine wpList_append_own w hg s x t ho base e i (.int k 0) 1 by_ ht hi hz hsize hby rfl (by decide) v n _ hs hown ad xs.length c (xs.map (Value.int k)) hx (by simp) ?_ (ints_oneCell k xs) (by simp only [maxLen]; omega) ?_ hbase ?_
    · intro j u hj
      obtain ⟨hj1, rfl⟩ := List.getElem?_eq_some_iff.1 hj
      obtain ⟨b', off', e, hc⟩ := hsrc j (by simpa using hj1)
      cases e
      rw [Addr.add_lit, hc]; simp
    · have : (n + xs.length) * by_ ≤ 1000000000 * 8 := Nat.mul_le_mul h63 hb8
      omega
    · intro v' w' h1 h2 _
      exact h v' w' (by rw [List.map_append]; exact h1) h2
theorem owns_empty {w : World} {e g cap : Nat} {cur : Array Value} {base : Nat} (hb : base ≤ g) (hh : w.heap[g]? = some (.cells cur e (0, 0))) (hc : cur.size = cap) (hm : cap ≤ maxLen) : w.ownsRow base e 1 (.slice (some ⟨g, 0, none⟩) 0 cap) 0 [] :=
  ⟨rfl, .inr ⟨g, cap, cur, rfl, hb, hh, Nat.zero_le _, hm, by omega, by simp⟩⟩
theorem grown_fr {F : Nat → Prop} {a w w' : World} {r : Option Nat} (h : w.grownBy w' r) (k : Fr F a w) (hr : ∀ n, r = some n → F n ∨ a.heap.size ≤ n) : Fr F a w' :=
  k.trans (G := fun n => r = some n) ⟨h.os, h.tape, h.output, h.size, fun n hn hg => h.block n hn (fun e => hg e.symm)⟩ (fun n e hn => by rcases hr n e with g | g; exact g; omega)

/-- 'append([]int{}, x...)' -/
theorem wpList_append_clone (hg : o.guard = none) (s x : Operand) (t : TypeId) (ho : o.op = .call { callee := .builtin .append, args := #[s, x], argTypes := #[t, t] })
    (e : TypeId) (i : TypeInfo) (k : IntKind) (by_ : Nat) (ht : P.underlying t = some (.slice e)) (hi : P.info? e = some i) (hz : i.zero = some (.int k 0)) (hsize : i.size = 1) (hby : i.bytes = by_)
    (hs : a.eval s = .slice (some ⟨w.heap.size, 0, none⟩) 0 0)
    (sp : Option Addr) (m c : Nat) (xs : List Int) (hm : xs.length = m) (hx : a.eval x = .slice sp m c) (hnil : sp = none → c = 0)
    (hsrc : ∀ j, (h : j < xs.length) → ∃ b off, sp = some ⟨b, off, none⟩ ∧ w.cell? ⟨b, off + j, none⟩ = some (.int k xs[j]))
    (h63 : xs.length ≤ 1000000000) (hb8 : by_ ≤ 8)
    (h : ∀ v' w', w'.ownsRow w.heap.size e 1 v' xs.length (xs.map (Value.int k)) → Fr (fun _ => False) w w' → wpList P ops Q rest (a.put o.dst v') w') : wpList P ops Q (o :: rest) a (w.alloc (.cells #[] e)) := by
  subst hm
  refine wpList_append_ints _ hg s x t ho w.heap.size e i k by_ ht hi hz hsize hby (.slice (some ⟨w.heap.size, 0, none⟩) 0 0) 0 [] hs (owns_empty (Nat.le_refl _) (heap_alloc_at rfl) rfl (Nat.zero_le _)) sp c xs hx hnil ?_ (by omega) hb8 (by simp) ?_
  · intro j hj
    obtain ⟨b, off, e1, hc⟩ := hsrc j hj
    exact ⟨b, off, e1, by rw [cell_same (heap_alloc_lt _ _ (World.block_lt_of_cell? _ _ hc))]; exact hc⟩
  · intro v' w' h1 h2
    exact h v' w' (by simpa using h1) (grown_fr h2 ((Fr.refl _ _).alloc _) (fun n e => by cases e; exact .inr (Nat.le_refl _)))

end
end Go.Proofs.Ytepdifajieegeaa
