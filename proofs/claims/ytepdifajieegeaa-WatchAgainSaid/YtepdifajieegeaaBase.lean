/- Frames, blocks and cells: plain facts about the heap, used by the walks of this seat. No condition. -/
import Derived.WalkKit
import Derived.WalkSpells
import Derived.WalkLawsBesides
namespace Go.Proofs.Ytepdifajieegeaa
open Go.RowKit

theorem hid {p : Prop} (h : p) : Hid p := h

theorem ret_int {k : IntKind} {a b : Int} (h : a = b) : Ending.returned (.int k a) = .returned (.int k b) := by rw [h]
theorem ret_bool {a b : Bool} (h : a = b) : Ending.returned (.bool a) = .returned (.bool b) := by rw [h]

/-- What a call may have changed: blocks in F and new ones. -/
structure Fr (F : Nat → Prop) (w w' : World) : Prop where
  os : w'.os = w.os
  tape : w'.tape = w.tape
  output : w'.output = w.output
  size : w.heap.size ≤ w'.heap.size
  keep : ∀ b, b < w.heap.size → ¬ F b → w'.heap[b]? = w.heap[b]?

/-- A footprint that has taken in all new blocks. -/
def Gr (F : Nat → Prop) (w w' : World) : Nat → Prop := fun b => F b ∨ (w.heap.size ≤ b ∧ b < w'.heap.size)

theorem Fr.refl (F : Nat → Prop) (w : World) : Fr F w w := ⟨rfl, rfl, rfl, Nat.le_refl _, fun _ _ _ => rfl⟩
theorem Fr.trans {F G : Nat → Prop} {a b c : World} (h : Fr F a b) (k : Fr G b c) (hG : ∀ n, G n → n < a.heap.size → F n) : Fr F a c :=
  ⟨k.os.trans h.os, k.tape.trans h.tape, k.output.trans h.output, Nat.le_trans h.size k.size,
   fun n hn hF => (k.keep n (Nat.lt_of_lt_of_le hn h.size) (fun g => hF (hG n g hn))).trans (h.keep n hn hF)⟩
theorem Fr.mono {F G : Nat → Prop} {a b : World} (h : Fr F a b) (hG : ∀ n, F n → n < a.heap.size → G n) : Fr G a b :=
  ⟨h.os, h.tape, h.output, h.size, fun n hn hg => h.keep n hn (fun f => hg (hG n f hn))⟩
theorem Fr.trans' {F : Nat → Prop} {a b c : World} (h : Fr F a b) (k : Fr (Gr F a b) b c) : Fr F a c :=
  h.trans k (fun n g hn => by rcases g with g | g; exact g; omega)
theorem Gr.trans {F : Nat → Prop} {a b c : World} (h1 : a.heap.size ≤ b.heap.size) (h2 : b.heap.size ≤ c.heap.size) : Gr (Gr F a b) b c = Gr F a c := by
  funext n; simp only [Gr, eq_iff_iff]; constructor
  · rintro ((h | h) | h); exact .inl h; exact .inr (by omega); exact .inr (by omega)
  · rintro (h | h)
    · exact .inl (.inl h)
    · by_cases g : n < b.heap.size
      · exact .inl (.inr ⟨h.1, g⟩)
      · exact .inr ⟨by omega, h.2⟩
theorem Gr.self (F : Nat → Prop) (w : World) : Gr F w w = F := by
  funext n; simp only [Gr, eq_iff_iff]; constructor
  · rintro (h | h); exact h; omega
  · exact .inl
theorem Fr.below {F : Nat → Prop} {a b : World} (h : Fr F a b) (hF : ∀ n, F n → a.heap.size ≤ n) : Below a.heap.size a b :=
  ⟨h.os, h.tape, h.output, h.size, fun n hn => h.keep n hn (fun f => by have := hF n f; omega)⟩
theorem Fr.ofBelow {a b : World} (h : Below a.heap.size a b) (F : Nat → Prop) : Fr F a b :=
  ⟨h.os, h.tape, h.output, h.size, fun n hn _ => h.block n hn⟩

theorem heap_lt {w : World} {b : Nat} {o : Obj} (h : w.heap[b]? = some o) : b < w.heap.size := by
  rcases Nat.lt_or_ge b w.heap.size with g | g
  · exact g
  · simp [Array.getElem?_eq_none g] at h

theorem cell_blk {w : World} {b : Nat} {c : Array Value} {T : TypeId} {z : Nat × Nat} (h : w.heap[b]? = some (.cells c T z)) (i : Nat) : w.cell? ⟨b, i, none⟩ = c[i]? := by
  simp [World.cell?, h]
theorem froz_blk {w : World} {b : Nat} {c : Array Value} {T : TypeId} (h : w.heap[b]? = some (.cells c T (0, 0))) (i : Nat) : w.frozen? ⟨b, i, none⟩ = false := by
  simp [World.frozen?, h]

theorem heap_alloc_lt (w : World) (o : Obj) {b : Nat} (h : b < w.heap.size) : (w.alloc o).heap[b]? = w.heap[b]? := by
  simp only [World.alloc, Array.getElem?_push]; rw [if_neg (by omega)]
theorem heap_alloc_new (w : World) (o : Obj) : (w.alloc o).heap[w.heap.size]? = some o := by
  show (w.heap.push o)[w.heap.size]? = _; simp
theorem heap_alloc_at {w : World} {o : Obj} {n : Nat} (h : w.heap.size = n) : (w.alloc o).heap[n]? = some o := by
  subst h; exact heap_alloc_new w o
theorem heap_setCell_ne (w : World) (a : Addr) (u : Value) {b : Nat} (h : b ≠ a.block) : (w.setCell a u).heap[b]? = w.heap[b]? :=
  Below.heap_setCell w a u b h
theorem heap_setCell_eq {w : World} {b : Nat} {c : Array Value} {T : TypeId} {z : Nat × Nat} (h : w.heap[b]? = some (.cells c T z)) (i : Nat) (v : Value) :
    (w.setCell ⟨b, i, none⟩ v).heap[b]? = some (.cells (c.setIfInBounds i v) T z) := by
  simp [World.setCell, Array.getElem?_modify, h]

theorem Fr.alloc {F : Nat → Prop} {a w : World} (h : Fr F a w) (o : Obj) : Fr F a (w.alloc o) :=
  h.trans (G := F) ⟨rfl, rfl, rfl, by simp, fun k hk _ => heap_alloc_lt _ _ hk⟩ (fun _ g _ => g)
theorem Fr.setCell {F : Nat → Prop} {a w : World} (h : Fr F a w) {p : Addr} (hp : F p.block ∨ a.heap.size ≤ p.block) (u : Value) : Fr F a (w.setCell p u) :=
  h.trans (G := fun n => n = p.block) ⟨rfl, rfl, rfl, by simp, fun k _ hg => heap_setCell_ne _ _ _ hg⟩
    (fun n g hn => by cases g; rcases hp with hp | hp; exact hp; omega)
theorem Fr.drew {F : Nat → Prop} {a w : World} (h : Fr F a w) : Fr F a w.drew := ⟨h.os, h.tape, h.output, h.size, h.keep⟩

/-- all of it new since w -/
def New (w : World) (F : Nat → Prop) : Prop := ∀ b, F b → w.heap.size ≤ b
theorem New.gr {w a b : World} {F : Nat → Prop} (h : New w F) (k : Fr (fun _ => False) w a) : New w (Gr F a b) := by
  have := k.size
  rintro n (g | g)
  · exact h n g
  · omega
theorem New.or {w : World} {F : Nat → Prop} (h : New w F) {r : Nat} (k : w.heap.size ≤ r) : New w (fun b => b = r ∨ F b) := by
  rintro n (rfl | g)
  · exact k
  · exact h n g
theorem Fr.hi {w a b : World} {G : Nat → Prop} (h : Fr (fun _ => False) w a) (k : Fr G a b) (hG : New w G) : Fr (fun _ => False) w b :=
  h.trans k (fun n g hn => by have := hG n g; omega)

/-- update of a function at one place -/
def upd {α β : Type} [DecidableEq α] (f : α → β) (a : α) (b : β) : α → β := fun x => if x = a then b else f x
theorem upd_same {α β : Type} [DecidableEq α] (f : α → β) (a : α) (b : β) : upd f a b a = b := by simp [upd]
theorem upd_ne {α β : Type} [DecidableEq α] (f : α → β) {a x : α} (b : β) (h : x ≠ a) : upd f a b x = f x := by simp [upd, h]

end Go.Proofs.Ytepdifajieegeaa
