/- Maps keyed by int: what they hold as a list of pairs; look-ups, stores, deletes, ranges. No condition. -/
import Derived.Test.YtepdifajieegeaaLaws
namespace Go.Proofs.Ytepdifajieegeaa
open Go.RowKit
open Go.ChangeMaps (setBlock)
open Go.MapKept (run_checkKey run_findKey run_getObj_map run_setObj_map IsKey)

abbrev PL := List (Int × Value)
def entryOf (x : Int × Value) : Value × Value := (.int .i64 x.1, x.2)

/-- the map in block r holds L -/
structure IMap (w : World) (r : Nat) (L : PL) (es : Array MapEntry) (k : Nat) : Prop where
  hd : w.heap[r]? = some (.map es k)
  ents : es.toList.map (fun e => (e.key, e.val)) = L.map entryOf
  lt : ∀ e ∈ es.toList, e.born < k
  nd : (es.toList.map (·.born)).Nodup

def find (L : PL) (g : Int) : Option Value := (L.find? (fun x => x.1 == g)).map (·.2)
/-- a store -/
def put : PL → Int → Value → PL
  | [], g, v => [(g, v)]
  | x :: L, g, v => if x.1 == g then (g, v) :: L else x :: put L g v
/-- a delete -/
def del : PL → Int → PL
  | [], _ => []
  | x :: L, g => if x.1 == g then L else x :: del L g

theorem IMap.keep {w w' r L es k} (h : IMap w r L es k) (hk : w'.heap[r]? = w.heap[r]?) : IMap w' r L es k := ⟨hk.trans h.hd, h.ents, h.lt, h.nd⟩

theorem modify_keys (j : Nat) (f : MapEntry → MapEntry) (hf : ∀ e, (f e).born = e.born) : ∀ l : List MapEntry, (l.modify j f).map (·.born) = l.map (·.born) := by
  intro l
  apply List.ext_getElem
  · simp
  · intro i h1 h2
    simp only [List.getElem_map, List.getElem_modify]
    split
    · rw [hf]
    · rfl

section
variable {P : Program}

theorem findNow_int (g : Int) : ∀ (es : List MapEntry) (L : PL) (i : Nat), es.map (fun e => (e.key, e.val)) = L.map entryOf →
    ∃ o, Instr.findNow (.int .i64) (.int .i64 g) es i = some o ∧ o.map (·.2) = find L g ∧ (∀ j v, o = some (j, v) → i ≤ j ∧ j < i + es.length ∧ (es[j - i]?).map (·.key) = some (.int .i64 g) ∧
      (∀ f : MapEntry → MapEntry, (∀ e, (f e).key = .int .i64 g) → ∀ v', (∀ e, (f e).val = v') → (es.modify (j - i) f).map (fun e => (e.key, e.val)) = (put L g v').map entryOf) ∧ (es.eraseIdx (j - i)).map (fun e => (e.key, e.val)) = (del L g).map entryOf) ∧
      (o = none → (∀ e : MapEntry, e.key = .int .i64 g → (es ++ [e]).map (fun e => (e.key, e.val)) = (put L g e.val).map entryOf) ∧ del L g = L)
  | [], L, i, h => by
    cases L with
    | nil => exact ⟨none, rfl, rfl, (fun j v e => by cases e), (fun _ => ⟨(fun e he => by simp [put, entryOf, he]), rfl⟩)⟩
    | cons x L => simp at h
  | e :: es, L, i, h => by
    cases L with
    | nil => simp at h
    | cons x L =>
      simp only [List.map_cons, List.cons.injEq] at h
      obtain ⟨h1, h2⟩ := h
      simp only [entryOf, Prod.mk.injEq] at h1
      by_cases hx : g = x.1
      · refine ⟨some (i, e.val), ?_, ?_, ?_, fun e => by cases e⟩
        · simp [Instr.findNow, h1.1, Instr.sameNow, hx]
        · simp [find, hx, h1.2]
        · intro j v e'
          cases e'
          refine ⟨Nat.le_refl _, by simp, by simp [h1.1, hx], ?_, ?_⟩
          · intro f hf v' hv'
            simp [put, hx, entryOf, hf, hv']
            exact h2
          · simp [del, hx]; exact h2
      · obtain ⟨o, ho1, ho2, ho3, ho4⟩ := findNow_int g es L (i + 1) h2
        have hx' : ¬ x.1 = g := fun e => hx e.symm
        refine ⟨o, ?_, ?_, ?_, ?_⟩
        · have hb : (g == x.1) = false := by simpa using hx
          simp [Instr.findNow, h1.1, Instr.sameNow, hb, ho1]
        · rw [ho2]; simp [find, hx']
        · intro j v e'
          obtain ⟨a, b, c, d, d'⟩ := ho3 j v e'
          have hj : j - i = (j - (i + 1)) + 1 := by omega
          refine ⟨by omega, by simp; omega, by rw [hj]; simpa using c, ?_, ?_⟩
          · intro f hf v' hv'
            rw [hj]
            simp only [List.modify_succ_cons, List.map_cons, put, beq_iff_eq, hx', if_false]
            rw [d f hf v' hv']
            simp [entryOf, h1.1, h1.2]
          · rw [hj]
            simp only [List.eraseIdx_cons_succ, List.map_cons, del, beq_iff_eq, hx', if_false]
            rw [d']
            simp [entryOf, h1.1, h1.2]
        · intro e'
          obtain ⟨a, b⟩ := ho4 e'
          refine ⟨?_, by simp [del, hx', b]⟩
          intro e0 he0
          have := a e0 he0
          simp only [List.cons_append, List.map_cons, put, beq_iff_eq, hx', if_false]
          rw [this]
          simp [entryOf, h1.1, h1.2]

theorem IMap.run_get {w r L es k} (h : IMap w r L es k) : (getObj r).run P w = .ok (.map es k) w := by simp [getObj, Sem.run, h.hd]
theorem IMap.run_set {w r L es k} (h : IMap w r L es k) (o : Obj) : (setObj r o).run P w = .ok () (setBlock w r o) := by simp [setObj, Sem.run, h.hd, setBlock]

theorem run_lookup {w : World} {r : Nat} {L : PL} {es : Array MapEntry} {k : Nat} (h : IMap w r L es k) {t K E : TypeId} (ht : P.underlying t = some (.map K E)) (hK : P.underlying K = some (.int .i64)) {Z : Value} (hz : (zeroValue E).run P w = .ok Z w) (g : Int) (c : Bool) :
    (Instr.lookup t (.map (some r)) (.int .i64 g) c).run P w = .ok (if c then .tuple #[(find L g).getD Z, .bool (find L g).isSome] else (find L g).getD Z) w := by
  obtain ⟨o, ho1, ho2, _, _⟩ := findNow_int g es.toList L 0 h.ents
  have h1 : (Instr.checkKey es.isEmpty 10000 K (.int .i64 g)).run P w = .ok () w := run_checkKey (P := P) (w := w) hK (k := .int .i64 g) (by simp [IsKey]) es.isEmpty 9999
  have h2 := run_findKey (P := P) (w := w) hK ho1
  have h3 := h.run_get (P := P)
  unfold Instr.lookup
  simp only [Sem.run_bind, run_underlying ht, Result.andThen, h3, h1, h2]
  rw [← ho2]
  cases o with
  | none => simp [h1, h2, h3, hz, Result.andThen, Sem.run]
  | some p => cases p; simp [h1, h2, h3, Result.andThen, Sem.run]

theorem run_update {w : World} {r : Nat} {L : PL} {es : Array MapEntry} {k : Nat} (h : IMap w r L es k) {t K E : TypeId} (ht : P.underlying t = some (.map K E)) (hK : P.underlying K = some (.int .i64)) (g : Int) (v : Value) :
    ∃ es' k', (Instr.mapUpdate t (.map (some r)) (.int .i64 g) v).run P w = .ok () (setBlock w r (.map es' k')) ∧ IMap (setBlock w r (.map es' k')) r (put L g v) es' k' := by
  obtain ⟨o, ho1, ho2, ho3, ho4⟩ := findNow_int g es.toList L 0 h.ents
  have h1 : (Instr.checkKey false 10000 K (.int .i64 g)).run P w = .ok () w := run_checkKey (P := P) (w := w) hK (k := .int .i64 g) (by simp [IsKey]) false 9999
  have h2 := run_findKey (P := P) (w := w) hK ho1
  have h3 := h.run_get (P := P)
  have hlt := heap_lt h.hd
  cases o with
  | none =>
    refine ⟨es.push { key := .int .i64 g, val := v, born := k }, k + 1, ?_, ?_⟩
    · unfold Instr.mapUpdate
      simp only [Sem.run_bind, run_underlying ht, Result.andThen, h3, h1, h2, h.run_set]
    · refine ⟨by simp [setBlock, hlt], ?_, ?_, ?_⟩
      · simpa using (ho4 rfl).1 { key := .int .i64 g, val := v, born := k } rfl
      · intro e he
        simp only [Array.toList_push, List.mem_append, List.mem_singleton] at he
        rcases he with he | rfl
        · have := h.lt e he; omega
        · simp
      · simp only [Array.toList_push, List.map_append, List.map_cons, List.map_nil]
        rw [List.nodup_append]
        refine ⟨h.nd, by simp, ?_⟩
        intro a ha b hb
        obtain ⟨e, he, rfl⟩ := List.mem_map.1 ha
        have := h.lt e he
        simp at hb; omega
  | some p =>
    obtain ⟨j, v0⟩ := p
    obtain ⟨_, hj, hkey, hput, _⟩ := ho3 j v0 rfl
    simp only [Nat.zero_add, Nat.sub_zero] at hj hkey hput
    have hk1 : ((es[j]?).map (·.key)).getD (.int .i64 g) = .int .i64 g := by
      simp only [Array.getElem?_toList] at hkey
      rw [hkey]; rfl
    refine ⟨es.modify j fun e => { e with key := .int .i64 g, val := v }, k, ?_, ?_⟩
    · unfold Instr.mapUpdate
      simp only [Sem.run_bind, run_underlying ht, Result.andThen, h3, h1, h2, hk1, Instr.keyThatStays, Instr.sameBits, beq_self_eq_true, Bool.and_self, if_true, Sem.run_pure, h.run_set]
    · refine ⟨by simp [setBlock, hlt], ?_, ?_, ?_⟩
      · rw [Array.toList_modify]
        exact hput _ (fun _ => rfl) v (fun _ => rfl)
      · intro e he
        rw [Array.toList_modify] at he
        have : e.born ∈ (es.toList.modify j fun e => { e with key := .int .i64 g, val := v }).map (·.born) := List.mem_map.2 ⟨e, he, rfl⟩
        rw [show (es.toList.modify j fun e => { e with key := .int .i64 g, val := v }).map (·.born) = es.toList.map (·.born) from modify_keys j (fun e => { e with key := .int .i64 g, val := v }) (fun _ => rfl) es.toList] at this
        obtain ⟨e0, he0, e1⟩ := List.mem_map.1 this
        rw [← e1]; exact h.lt e0 he0
      · rw [Array.toList_modify]
        rw [show (es.toList.modify j fun e => { e with key := .int .i64 g, val := v }).map (·.born) = es.toList.map (·.born) from modify_keys j (fun e => { e with key := .int .i64 g, val := v }) (fun _ => rfl) es.toList]
        exact h.nd

theorem run_delete {w : World} {r : Nat} {L : PL} {es : Array MapEntry} {k : Nat} (h : IMap w r L es k) {t K E ty : TypeId} (ht : P.underlying t = some (.map K E)) (hK : P.underlying K = some (.int .i64)) (g : Int) :
    ∃ es', (Builtin.delete_ #[t, K] ty #[.map (some r), .int .i64 g]).run P w = .ok (.tuple #[]) (setBlock w r (.map es' k)) ∧ IMap (setBlock w r (.map es' k)) r (del L g) es' k := by
  obtain ⟨o, ho1, ho2, ho3, ho4⟩ := findNow_int g es.toList L 0 h.ents
  have h1 : (Instr.checkKey es.isEmpty 10000 K (.int .i64 g)).run P w = .ok () w := run_checkKey (P := P) (w := w) hK (k := .int .i64 g) (by simp [IsKey]) es.isEmpty 9999
  have h2 := run_findKey (P := P) (w := w) hK ho1
  have h3 := h.run_get (P := P)
  have hlt := heap_lt h.hd
  cases o with
  | none =>
    refine ⟨es, ?_, ⟨by simp [setBlock, hlt], by rw [(ho4 rfl).2]; exact h.ents, h.lt, h.nd⟩⟩
    simp [Builtin.delete_, run_underlying ht, h1, h2, h3, h.run_set, Result.andThen]
  | some p =>
    obtain ⟨j, v0⟩ := p
    obtain ⟨_, hj, hkey, _, hdel⟩ := ho3 j v0 rfl
    simp only [Nat.zero_add, Nat.sub_zero, Array.length_toList] at hj hkey hdel
    have e1 : (es.eraseIdxIfInBounds j).toList = es.toList.eraseIdx j := by
      unfold Array.eraseIdxIfInBounds
      rw [dif_pos hj]; simp
    refine ⟨es.eraseIdxIfInBounds j, ?_, ⟨by simp [setBlock, hlt], by rw [e1]; exact hdel, ?_, ?_⟩⟩
    · simp [Builtin.delete_, run_underlying ht, h1, h2, h3, h.run_set, Result.andThen]
    · intro e he
      rw [e1] at he
      exact h.lt e ((List.eraseIdx_sublist _ _).subset he)
    · rw [e1]
      exact ((List.eraseIdx_sublist _ _).map _).nodup h.nd

theorem IMap.size {w r L es k} (h : IMap w r L es k) : es.size = L.length := by
  have := congrArg List.length h.ents
  simpa using this

/-- a range over a map: which entries have come -/
structure MIt (w : World) (it r : Nat) (L : PL) (vis : Nat → Bool) (c : Nat) : Prop where
  ex : ∃ es k seen, w.heap[it]? = some (.mapIter (some r) k seen k) ∧ IMap w r L es k ∧ (∀ j, (h : j < es.size) → vis j = seen.contains es[j].born) ∧ c = (leftOf es seen).size

theorem MIt.keep {w w' it r L vis c} (h : MIt w it r L vis c) (h1 : w'.heap[it]? = w.heap[it]?) (h2 : w'.heap[r]? = w.heap[r]?) : MIt w' it r L vis c := by
  obtain ⟨es, k, seen, a, b, c, d⟩ := h.ex
  exact ⟨es, k, seen, h1.trans a, b.keep h2, c, d⟩

theorem run_range {w : World} {r : Nat} {L : PL} {es : Array MapEntry} {k : Nat} (h : IMap w r L es k) {t K E : TypeId} (ht : P.underlying t = some (.map K E)) :
    (Instr.range t (.map (some r))).run P w = .ok (.pointer (some ⟨w.heap.size, 0, none⟩)) (w.alloc (.mapIter (some r) k #[] k)) ∧ MIt (w.alloc (.mapIter (some r) k #[] k)) w.heap.size r L (fun _ => false) L.length := by
  have hlt := heap_lt h.hd
  refine ⟨run_range_map w t K E r es k ht h.hd, es, k, #[], heap_alloc_at rfl, h.keep (heap_alloc_lt _ _ hlt), fun j hj => by simp, ?_⟩
  rw [← h.size]
  have e : es.filter (fun _ => true) = es := Array.filter_eq_self.2 (by simp)
  simp [leftOf, e]

theorem entry_at {L : PL} {es : Array MapEntry} (h : es.toList.map (fun e => (e.key, e.val)) = L.map entryOf) {j : Nat} (hj : j < es.size) (hj' : j < L.length) : es[j].key = .int .i64 L[j].1 ∧ es[j].val = L[j].2 := by
  have := congrArg (fun l => l[j]?) h
  simp [hj, hj', entryOf] at this
  exact this

theorem run_next {w : World} {it r : Nat} {L : PL} {vis : Nat → Bool} {c : Nat} (h : MIt w it r L vis c) (ty : TypeId) (hne : it ≠ r) :
    (c = 0 ∧ (∀ j, j < L.length → vis j = true) ∧ (Instr.next (.pointer (some ⟨it, 0, none⟩)) false ty).run P w = .ok (.tuple #[.bool false]) w) ∨
    (∃ j c' w', ∃ hj : j < L.length, vis j = false ∧ c' < c ∧ (Instr.next (.pointer (some ⟨it, 0, none⟩)) false ty).run P w = .ok (.tuple #[.bool true, .int .i64 L[j].1, L[j].2]) w' ∧
      MIt w' it r L (upd vis j true) c' ∧ Only it w w' ∧ (Instr.entry (.pointer (some ⟨it, 0, none⟩))).run P w' = .ok (.tuple #[.int .i64 L[j].1, L[j].2]) w') := by
  obtain ⟨es, k, seen, h1, h2, h3, h4⟩ := h.ex
  rcases run_next_at (P := P) w ty it r k k seen es k h1 h2.hd h2.lt (Nat.le_refl _) with ⟨h0, hr⟩ | ⟨e, he, w1, hw1, hr⟩
  · refine .inl ⟨by omega, fun j hj => ?_, hr⟩
    have hj' : j < es.size := by rw [h2.size]; exact hj
    rw [h3 j hj']
    exact all_seen es seen h0 _ (by simp)
  · right
    obtain ⟨hm, hns⟩ := mem_left he
    obtain ⟨j, hj, rfl⟩ := List.getElem_of_mem hm
    simp only [Array.length_toList] at hj
    simp only [Array.getElem_toList] at he hm hns hr
    have hjL : j < L.length := by rw [← h2.size]; exact hj
    obtain ⟨ek, ev⟩ := entry_at h2.ents hj hjL
    rw [ek, ev] at hr
    have hlt := heap_lt h1
    have hw : w1.heap = w.heap := by rcases hw1 with rfl | rfl <;> rfl
    have hnew : (setBlock w1 it (.mapIter (some r) k (seen.push es[j].born) k)).heap[it]? = some (.mapIter (some r) k (seen.push es[j].born) k) := by simp [setBlock, hw, hlt]
    have hmap : (setBlock w1 it (.mapIter (some r) k (seen.push es[j].born) k)).heap[r]? = w.heap[r]? := by
      simp only [setBlock, hw]
      rw [Array.getElem?_setIfInBounds_ne hne]
    refine ⟨j, (leftOf es (seen.push es[j].born)).size, _, hjL, ?_, ?_, hr, ⟨es, k, _, hnew, h2.keep hmap, ?_, rfl⟩, ?_, ?_⟩
    · rw [h3 j hj]; exact hns
    · rw [h4]; exact left_shrinks es seen _ he
    · intro i hi
      rw [contains_push, ← h3 i hi]
      unfold upd
      by_cases e : i = j
      · subst e; simp
      · rw [if_neg e]
        have : (es[i].born == es[j].born) = false := by
          rw [beq_eq_false_iff_ne]
          intro hb
          have hnd := h2.nd
          have := (List.getElem_inj (h₀ := by simpa using hi) (h₁ := by simpa using hj) hnd (i := i) (j := j)).1 (by simpa using hb)
          exact e this
        rw [this]; simp
    · rcases hw1 with rfl | rfl
      · exact ⟨rfl, rfl, rfl, by simp [setBlock], fun n hn => by simp only [setBlock]; rw [Array.getElem?_setIfInBounds_ne (Ne.symm hn)]⟩
      · exact ⟨rfl, rfl, rfl, by simp [setBlock], fun n hn => by show (w.heap.setIfInBounds it _)[n]? = _; rw [Array.getElem?_setIfInBounds_ne (Ne.symm hn)]⟩
    · have := run_entry_at (P := P) _ it r k seen es k es[j] hnew (hmap.trans h2.hd) hm h2.nd
      rw [ek, ev] at this
      exact this

/-- how many entries are still to come -/
def mleft (w : World) (it r : Nat) : Nat :=
  match w.heap[it]?, w.heap[r]? with
  | some (.mapIter _ _ seen _), some (.map es _) => (leftOf es seen).size
  | _, _ => 0
theorem MIt.left {w : World} {it r : Nat} {L : PL} {vis : Nat → Bool} {c : Nat} (h : MIt w it r L vis c) : mleft w it r = c := by
  obtain ⟨es, k, seen, h1, h2, _, h4⟩ := h.ex
  simp [mleft, h1, h2.hd, h4]

theorem wpList_next_map (w : World) {ops : Array Oper} {rest : List Oper} {o : Oper} {a : Act} {Q : Exit → Act → World → Prop} (hg : o.guard = none) (x : Operand) (hop : o.op = .next x false)
    (it r : Nat) (L : PL) (vis : Nat → Bool) (c : Nat) (hx : a.eval x = .pointer (some ⟨it, 0, none⟩)) (h : MIt w it r L vis c) (hne : it ≠ r)
    (hDone : c = 0 → (∀ j, j < L.length → vis j = true) → wpList P ops Q rest (a.put o.dst (.tuple #[.bool false])) w)
    (hMore : ∀ j c' w' (hj : j < L.length), vis j = false → c' < c → MIt w' it r L (upd vis j true) c' → Only it w w' → (Instr.entry (.pointer (some ⟨it, 0, none⟩))).run P w' = .ok (.tuple #[.int .i64 L[j].1, L[j].2]) w' →
      wpList P ops Q rest (a.put o.dst (.tuple #[.bool true, .int .i64 L[j].1, L[j].2])) w') :
    wpList P ops Q (o :: rest) a w := by
  refine wpList_plain hg fun K hK => ?_
  unfold Oper.wp
  rcases run_next (P := P) h o.type hne with ⟨h0, hv, hr⟩ | ⟨j, c', w', hj, hv, hc, hr, hI, hO, hE⟩
  · simp [execOp, hop, hx, hr, Result.andThen]
    exact hK _ _ (hDone h0 hv)
  · simp [execOp, hop, hx, hr, Result.andThen]
    exact hK _ _ (hMore j c' w' hj hv hc hI hO hE)

theorem put_new {L : PL} {g : Int} (h : g ∉ L.map (·.1)) (v : Value) : put L g v = L ++ [(g, v)] := by
  induction L with
  | nil => rfl
  | cons x L ih =>
    simp only [List.map_cons, List.mem_cons, not_or] at h
    simp only [put, List.cons_append]
    rw [if_neg (by simpa using Ne.symm h.1), ih h.2]

/-- only block r has turned -/
theorem only_setBlock (w : World) (r : Nat) (o : Obj) : Only r w (setBlock w r o) :=
  ⟨rfl, rfl, rfl, by simp [setBlock], fun n hn => by simp only [setBlock]; rw [Array.getElem?_setIfInBounds_ne (Ne.symm hn)]⟩

theorem wpList_put (w : World) {ops : Array Oper} {rest : List Oper} {o : Oper} {a : Act} {Q : Exit → Act → World → Prop} (hg : o.guard = none) (t : TypeId) (x y z : Operand) (hop : o.op = .mapUpdate t x y z)
    (K E : TypeId) (ht : P.underlying t = some (.map K E)) (hK : P.underlying K = some (.int .i64)) (r : Nat) (L : PL) (es : Array MapEntry) (k : Nat) (g : Int) (v : Value)
    (hx : a.eval x = .map (some r)) (hy : a.eval y = .int .i64 g) (hz : a.eval z = v) (h : IMap w r L es k)
    (hK' : ∀ w' es' k', Only r w w' → IMap w' r (put L g v) es' k' → wpList P ops Q rest (a.put o.dst undef) w') : wpList P ops Q (o :: rest) a w := by
  refine wpList_plain hg fun K' hK => ?_
  obtain ⟨es', k', hr, hI⟩ := run_update (P := P) h ht ‹P.underlying K = _› g v
  unfold Oper.wp
  simp [execOp, hop, hx, hy, hz, hr, Result.andThen]
  exact hK _ _ (hK' _ _ _ (only_setBlock _ _ _) hI)

theorem run_len {w : World} {r : Nat} {L : PL} {es : Array MapEntry} {k : Nat} (h : IMap w r L es k) {t K E : TypeId} (ht : P.underlying t = some (.map K E)) (ty : TypeId) :
    (Builtin.len_ #[t] ty #[.map (some r)]).run P w = .ok (.int .i64 L.length) w := by
  have h3 := h.run_get (P := P)
  have hs := h.size
  simp [Builtin.len_, run_underlying ht, Result.andThen, h3, hs, goInt, Sem.run]

theorem wpList_insert (w : World) {ops : Array Oper} {rest : List Oper} {o : Oper} {a : Act} {Q : Exit → Act → World → Prop} (hg : o.guard = none) (t : TypeId) (x y z : Operand) (hop : o.op = .insert t x y z)
    (K E : TypeId) (ht : P.underlying t = some (.map K E)) (hK : P.underlying K = some (.int .i64)) (r : Nat) (L : PL) (es : Array MapEntry) (k : Nat) (g : Int) (v : Value)
    (hx : a.eval x = .map (some r)) (hy : a.eval y = .int .i64 g) (hz : a.eval z = v) (h : IMap w r L es k)
    (hK' : ∀ w' es' k', Only r w w' → IMap w' r (put L g v) es' k' → wpList P ops Q rest (a.put o.dst undef) w') : wpList P ops Q (o :: rest) a w := by
  refine wpList_plain hg fun K' hK => ?_
  obtain ⟨es', k', hr, hI⟩ := run_update (P := P) h ht ‹P.underlying K = _› g v
  unfold Oper.wp
  simp [execOp, hop, hx, hy, hz, hr, Result.andThen]
  exact hK _ _ (hK' _ _ _ (only_setBlock _ _ _) hI)
theorem imap_made (w : World) : IMap (w.alloc (.map #[] 0)) w.heap.size [] #[] 0 := ⟨heap_alloc_at rfl, rfl, by simp, by simp⟩

theorem wpList_del (w : World) {ops : Array Oper} {rest : List Oper} {o : Oper} {a : Act} {Q : Exit → Act → World → Prop} (hg : o.guard = none) (t K E : TypeId) (x y : Operand)
    (hop : o.op = .call { callee := .builtin .delete, args := #[x, y], argTypes := #[t, K] })
    (ht : P.underlying t = some (.map K E)) (hK : P.underlying K = some (.int .i64)) (r : Nat) (L : PL) (es : Array MapEntry) (k : Nat) (g : Int)
    (hx : a.eval x = .map (some r)) (hy : a.eval y = .int .i64 g) (h : IMap w r L es k)
    (hK' : ∀ w' es', Only r w w' → IMap w' r (del L g) es' k → wpList P ops Q rest (a.put o.dst (.tuple #[])) w') : wpList P ops Q (o :: rest) a w := by
  refine wpList_plain hg fun K' hK => ?_
  obtain ⟨es', hr, hI⟩ := run_delete (P := P) (ty := o.type) h ht ‹P.underlying K = _› g
  unfold Oper.wp
  simp [execOp, hop, resolve, invoke, builtin, hx, hy, hr, Result.andThen]
  exact hK _ _ (hK' _ _ (only_setBlock _ _ _) hI)
end
end Go.Proofs.Ytepdifajieegeaa
