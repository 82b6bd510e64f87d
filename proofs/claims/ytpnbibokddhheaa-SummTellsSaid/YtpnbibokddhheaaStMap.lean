/-
  Maps by what is in them: entries of keys and values, in the order in which they were laid in, whatever the key's type.
-/
import Derived.Maps.RangeWalk
import Derived.Maps.OwnSet
import Derived.Test.YtpnbibokddhheaaMem
namespace Go.Proofs.Ytpnbibokddhheaa
open Go.RowKit Go.MapKept
open Go.ChangeMaps (setBlock)

def entL {κ : Type} (enc : κ → Value) (L : List (κ × Value)) : List (Value × Value) := L.map fun e => (enc e.1, e.2)
def entE (l : List MapEntry) : List (Value × Value) := l.map fun x => (x.key, x.val)

section
variable {κ : Type} {P : Program} {kt et mt : TypeId} {enc : κ → Value} {w w' : World} {b r : Nat} {L rest : List (κ × Value)}

/-- Block b of w is a map of just these entries. -/
def MapAt (enc : κ → Value) (w : World) (b : Nat) (L : List (κ × Value)) : Prop :=
  ∃ es clock, w.heap[b]? = some (.map es clock) ∧ entE es.toList = entL enc L ∧ (∀ x ∈ es.toList, x.born < clock) ∧ (es.toList.map (·.born)).Nodup ∧ (L.map (·.1)).Nodup
/-- Block r of w ranges over the map in block b: what is in the map, and which of it is still to come. -/
def RangeAt (enc : κ → Value) (w : World) (b r : Nat) (L rest : List (κ × Value)) : Prop :=
  ∃ es clock since seen c0, w.heap[b]? = some (.map es clock) ∧ entE es.toList = entL enc L ∧ (∀ x ∈ es.toList, x.born < clock) ∧ (es.toList.map (·.born)).Nodup ∧ (L.map (·.1)).Nodup ∧
    w.heap[r]? = some (.mapIter (some b) since seen c0) ∧ (∀ x ∈ es.toList, x.born < since) ∧ since ≤ c0 ∧ since ≤ clock ∧ entE (leftOf es seen).toList = entL enc rest

theorem MapAt.nodup (h : MapAt enc w b L) : (L.map (·.1)).Nodup := by obtain ⟨_, _, _, _, _, _, h⟩ := h; exact h
theorem MapAt.lt (h : MapAt enc w b L) : b < w.heap.size := by
  obtain ⟨_, _, h, _⟩ := h
  exact (Array.getElem?_eq_some_iff.1 h).1
theorem MapAt.same (h : MapAt enc w b L) (he : w'.heap[b]? = w.heap[b]?) : MapAt enc w' b L := by
  obtain ⟨es, clock, h, rest⟩ := h
  exact ⟨es, clock, he.trans h, rest⟩
theorem MapAt.below {B : Nat} (h : MapAt enc w b L) (hb : Below B w w') (hB : b < B) : MapAt enc w' b L := h.same (hb.block b hB)
theorem MapAt.grown {row : Option Nat} (h : MapAt enc w b L) (hg : w.grownBy w' row) (hne : some b ≠ row) : MapAt enc w' b L := h.same (hg.block b h.lt hne)
theorem MapAt.alloc (h : MapAt enc w b L) (o : Obj) : MapAt enc (w.alloc o) b L := h.same (Below.heap_alloc w o b h.lt)
theorem MapAt.drew (h : MapAt enc w b L) : MapAt enc w.drew b L := h
theorem MapAt.drewN (h : MapAt enc w b L) (n : Nat) : MapAt enc (w.drewN n) b L := h
theorem MapAt.set_ (h : MapAt enc w b L) {p : Addr} (hp : b ≠ p.block) (u : Value) : MapAt enc (w.setCell p u) b L := h.same (Below.heap_setCell w p u b hp)
theorem MapAt.new (w : World) : MapAt enc (w.alloc (.map #[] 0)) w.heap.size [] := ⟨#[], 0, heap_alloc_new w _, rfl, by simp, by simp, by simp⟩

theorem MapAt.len_run (h : MapAt enc w b L) (ht : P.underlying mt = some (.map kt et)) (ty : TypeId) : (Builtin.len_ #[mt] ty #[.map (some b)]).run P w = .ok (.int .i64 L.length) w := by
  obtain ⟨es, clock, hb, hm, -⟩ := h
  have hlen : es.size = L.length := by simpa [entE, entL] using congrArg List.length hm
  simp [Builtin.len_, run_underlying ht, MapKept.run_getObj_map hb, Result.andThen, hlen, goInt]

theorem setBlock_grown (_hb : b < w.heap.size) (o : Obj) : w.grownBy (setBlock w b o) (some b) :=
  ⟨rfl, rfl, rfl, by simp [setBlock], fun i _ hne => by
    have : b ≠ i := fun e => hne (by rw [e])
    simp [setBlock, this]⟩
theorem setBlock_size (o : Obj) : (setBlock w b o).heap.size = w.heap.size := by simp [setBlock]
theorem RangeAt.map (h : RangeAt enc w b r L rest) : MapAt enc w b L := by
  obtain ⟨es, clock, _, _, _, h1, h2, h3, h4, h5, _⟩ := h
  exact ⟨es, clock, h1, h2, h3, h4, h5⟩
theorem RangeAt.left_eq (h : RangeAt enc w b r L rest) : w.rangeLeft b r = rest.length := by
  obtain ⟨es, clock, since, seen, c0, hb, _, _, _, _, hr, _, _, _, hl⟩ := h
  have := congrArg List.length hl
  simp only [World.rangeLeft, hb, hr]
  simpa [entE, entL] using this
theorem RangeAt.ne (h : RangeAt enc w b r L rest) : r ≠ b := by
  obtain ⟨es, clock, since, seen, c0, hb, _, _, _, _, hr, _⟩ := h
  intro e
  rw [e, hb] at hr
  cases hr
theorem RangeAt.lt (h : RangeAt enc w b r L rest) : r < w.heap.size := by
  obtain ⟨es, clock, since, seen, c0, hb, _, _, _, _, hr, _⟩ := h
  exact (Array.getElem?_eq_some_iff.1 hr).1
theorem RangeAt.same (h : RangeAt enc w b r L rest) (hb' : w'.heap[b]? = w.heap[b]?) (hr' : w'.heap[r]? = w.heap[r]?) : RangeAt enc w' b r L rest := by
  obtain ⟨es, clock, since, seen, c0, hb, x1, x2, x3, x4, hr, rest⟩ := h
  exact ⟨es, clock, since, seen, c0, hb'.trans hb, x1, x2, x3, x4, hr'.trans hr, rest⟩
theorem RangeAt.grown {row : Option Nat} (h : RangeAt enc w b r L rest) (hg : w.grownBy w' row) (hb' : some b ≠ row) (hr' : some r ≠ row) : RangeAt enc w' b r L rest :=
  h.same (hg.block b h.map.lt hb') (hg.block r h.lt hr')
theorem RangeAt.below {B : Nat} (h : RangeAt enc w b r L rest) (hg : Below B w w') (hb' : b < B) (hr' : r < B) : RangeAt enc w' b r L rest := h.same (hg.block b hb') (hg.block r hr')
theorem RangeAt.alloc (h : RangeAt enc w b r L rest) (o : Obj) : RangeAt enc (w.alloc o) b r L rest := h.same (Below.heap_alloc w o b h.map.lt) (Below.heap_alloc w o r h.lt)

theorem MapAt.range_run (h : MapAt enc w b L) (ht : P.underlying mt = some (.map kt et)) :
    ∃ w', (Instr.range mt (.map (some b))).run P w = .ok (.pointer (some ⟨w.heap.size, 0, none⟩)) w' ∧ RangeAt enc w' b w.heap.size L L ∧ Below w.heap.size w w' ∧ w'.heap.size = w.heap.size + 1 := by
  have hlt := h.lt
  obtain ⟨es, clock, hb, hm, h1, h2, h3⟩ := h
  refine ⟨_, run_range_map w mt kt et b es clock ht hb, ⟨es, clock, clock, #[], clock, (Below.heap_alloc w _ b hlt).trans hb, hm, h1, h2, h3, heap_alloc_new w _, h1, Nat.le_refl _, Nat.le_refl _, ?_⟩, (Below.refl _ _).alloc (Nat.le_refl _) _, by simp⟩
  rw [← hm]
  have : leftOf es #[] = es := by unfold leftOf; exact Array.filter_eq_self.2 (by simp)
  rw [this]
theorem entL_split {l1 l2 : List MapEntry} {x : MapEntry} (_hi : ∀ a b, enc a = enc b → a = b) (h : entE (l1 ++ x :: l2) = entL enc rest) :
    ∃ pre e post, rest = pre ++ e :: post ∧ entE l1 = entL enc pre ∧ entE l2 = entL enc post ∧ x.key = enc e.1 ∧ x.val = e.2 := by
  simp only [entE, entL, List.map_append, List.map_cons] at h
  obtain ⟨pre, q, rfl, h1, h2⟩ := List.map_eq_append_iff.1 h.symm
  obtain ⟨e, post, rfl, h3, h4⟩ := List.map_eq_cons_iff.1 h2
  simp only [Prod.mk.injEq] at h3
  exact ⟨pre, e, post, rfl, h1.symm, h4.symm, h3.1.symm, h3.2.symm⟩
theorem RangeAt.next_run (h : RangeAt enc w b r L rest) (hi : ∀ a b, enc a = enc b → a = b) (ty : TypeId) :
    (rest = [] ∧ (Instr.next (.pointer (some ⟨r, 0, none⟩)) false ty).run P w = .ok (.tuple #[.bool false]) w) ∨
    ∃ pre e post w', rest = pre ++ e :: post ∧ (Instr.next (.pointer (some ⟨r, 0, none⟩)) false ty).run P w = .ok (.tuple #[.bool true, enc e.1, e.2]) w' ∧ RangeAt enc w' b r L (pre ++ post) ∧ w.grownBy w' (some r) ∧ w'.heap.size = w.heap.size ∧
      (Instr.entry (.pointer (some ⟨r, 0, none⟩))).run P w' = .ok (.tuple #[enc e.1, e.2]) w' := by
  have hne := h.ne
  obtain ⟨es, clock, since, seen, c0, hb, hm, h1, h2, h3, hr, hold, hsc, hsk, hl⟩ := h
  rcases run_next_at (P := P) w ty r b since c0 seen es clock hr hb hold hsc with ⟨h0, hrun⟩ | ⟨x, he, w1, hal, hrun⟩
  · refine Or.inl ⟨?_, hrun⟩
    have : (leftOf es seen).toList = [] := by rw [Array.eq_empty_of_size_eq_zero h0]
    rw [this] at hl
    simpa [entE, entL] using hl.symm
  · obtain ⟨hem, hes⟩ := mem_left he
    obtain ⟨l1, l2, hll⟩ := List.append_of_mem he
    rw [hll] at hl
    obtain ⟨pre, e, post, rfl, e1, e2, e3, e4⟩ := entL_split hi hl
    have hr1 : w1.heap[r]? = some (.mapIter (some b) since seen c0) := by rcases hal with rfl | rfl <;> exact hr
    have hb1 : w1.heap[b]? = some (.map es clock) := by rcases hal with rfl | rfl <;> exact hb
    have hset := heap_set (o' := .mapIter (some b) since (seen.push x.born) clock) hr1
    have hb' : (setBlock w1 r (.mapIter (some b) since (seen.push x.born) clock)).heap[b]? = some (.map es clock) := (hset.2 b (fun e1 => hne e1.symm)).trans hb1
    have hborn : ((leftOf es seen).toList.map (·.born)).Nodup := h2.sublist (List.Sublist.map _ (by unfold leftOf; rw [Array.toList_filter]; exact List.filter_sublist))
    have hleft : (leftOf es (seen.push x.born)).toList = l1 ++ l2 := by
      have : (leftOf es (seen.push x.born)).toList = (leftOf es seen).toList.filter fun y => !(y.born == x.born) := by
        unfold leftOf
        rw [Array.toList_filter, Array.toList_filter, List.filter_filter]
        refine List.filter_congr fun y _ => ?_
        rw [contains_push]
        cases seen.contains y.born <;> cases (y.born == x.born) <;> rfl
      rw [this, hll]
      rw [hll, List.map_append, List.map_cons] at hborn
      have hb2 := List.nodup_append.1 hborn
      have hb3 := List.nodup_cons.1 hb2.2.1
      rw [List.filter_append, List.filter_cons]
      simp only [beq_self_eq_true, Bool.not_true, Bool.false_eq_true, if_false]
      congr 1
      · refine List.filter_eq_self.2 fun y hy => ?_
        have := hb2.2.2 y.born (List.mem_map.2 ⟨y, hy, rfl⟩) x.born (by simp)
        simpa using this
      · refine List.filter_eq_self.2 fun y hy => ?_
        have : y.born ≠ x.born := fun e => hb3.1 (by rw [← e]; exact List.mem_map.2 ⟨y, hy, rfl⟩)
        simpa using this
    refine Or.inr ⟨pre, e, post, _, rfl, by rw [← e3, ← e4]; exact hrun, ⟨es, clock, since, seen.push x.born, clock, hb', hm, h1, h2, h3, hset.1, hold, hsk, hsk, ?_⟩, ?_, ?_, by rw [← e3, ← e4]; exact run_entry_at _ r b since seen es clock x hset.1 hb' hem h2⟩
    · rw [hleft]
      simp only [entE, entL, List.map_append] at e1 e2 ⊢
      rw [e1, e2]
    · rcases hal with rfl | rfl <;> exact ⟨rfl, rfl, rfl, by simp [setBlock], fun i _ hi => hset.2 i (fun e1 => hi (by rw [e1]))⟩
    · rcases hal with rfl | rfl <;> simp [setBlock]
end

section
variable {κ : Type} [DecidableEq κ]

def look (k : κ) : List (κ × Value) → Nat → Option (Nat × Value)
  | [], _ => none
  | e :: L, i => if e.1 = k then some (i, e.2) else look k L (i + 1)
def getL (k : κ) : List (κ × Value) → Option Value
  | [] => none
  | e :: L => if e.1 = k then some e.2 else getL k L
def setL (k : κ) (v : Value) : List (κ × Value) → List (κ × Value)
  | [] => [(k, v)]
  | e :: L => if e.1 = k then (k, v) :: L else e :: setL k v L
def dropL (k : κ) (L : List (κ × Value)) : List (κ × Value) := L.filter fun e => decide (e.1 ≠ k)

theorem look_none {k : κ} : ∀ {L : List (κ × Value)} {i : Nat}, look k L i = none → getL k L = none ∧ (∀ e ∈ L, e.1 ≠ k) ∧ ∀ v, setL k v L = L ++ [(k, v)]
  | [], _, _ => ⟨rfl, by simp, fun _ => rfl⟩
  | e :: L, i, h => by
    unfold look at h
    by_cases he : e.1 = k
    · rw [if_pos he] at h; cases h
    · rw [if_neg he] at h
      obtain ⟨h1, h2, h3⟩ := look_none h
      refine ⟨by simp [getL, he, h1], ?_, fun v => by simp [setL, he, h3 v]⟩
      intro x hx
      rcases List.mem_cons.1 hx with rfl | hx
      · exact he
      · exact h2 x hx
theorem look_some {k : κ} : ∀ {L : List (κ × Value)} {i j : Nat} {v : Value}, look k L i = some (j, v) → ∃ n, j = i + n ∧ L[n]? = some (k, v) ∧ getL k L = some v ∧ ∀ v', setL k v' L = L.set n (k, v')
  | [], _, _, _, h => by cases h
  | e :: L, i, j, v, h => by
    unfold look at h
    by_cases he : e.1 = k
    · rw [if_pos he] at h
      simp only [Option.some.injEq, Prod.mk.injEq] at h
      obtain ⟨rfl, rfl⟩ := h
      exact ⟨0, rfl, by simp [← he], by simp [getL, he], fun v' => by simp [setL, he]⟩
    · rw [if_neg he] at h
      obtain ⟨n, rfl, h1, h2, h3⟩ := look_some h
      exact ⟨n + 1, by omega, by simpa using h1, by simp [getL, he, h2], fun v' => by simp [setL, he, h3 v']⟩
theorem getL_none {k : κ} : ∀ {L : List (κ × Value)}, getL k L = none ↔ ∀ e ∈ L, e.1 ≠ k
  | [] => by simp [getL]
  | e :: L => by
    by_cases he : e.1 = k
    · simp [getL, he]
    · simp [getL, he, getL_none (k := k) (L := L)]
theorem getL_mem {k : κ} {v : Value} : ∀ {L : List (κ × Value)}, getL k L = some v → (k, v) ∈ L
  | [], h => by cases h
  | e :: L, h => by
    unfold getL at h
    by_cases he : e.1 = k
    · rw [if_pos he] at h
      simp only [Option.some.injEq] at h
      subst he h
      simp
    · rw [if_neg he] at h
      exact List.mem_cons_of_mem _ (getL_mem h)
theorem getL_of_mem {k : κ} {v : Value} : ∀ {L : List (κ × Value)}, (L.map (·.1)).Nodup → (k, v) ∈ L → getL k L = some v
  | [], _, h => by simp at h
  | e :: L, hn, h => by
    simp only [List.map_cons, List.nodup_cons] at hn
    unfold getL
    rcases List.mem_cons.1 h with rfl | h
    · simp
    · have : e.1 ≠ k := fun he => hn.1 (by rw [he]; exact List.mem_map.2 ⟨_, h, rfl⟩)
      rw [if_neg this]
      exact getL_of_mem hn.2 h
theorem setL_keys {k : κ} {v : Value} : ∀ {L : List (κ × Value)}, (L.map (·.1)).Nodup → ((setL k v L).map (·.1)).Nodup ∧ ∀ x, x ∈ (setL k v L).map (·.1) ↔ x = k ∨ x ∈ L.map (·.1)
  | [], _ => by simp [setL]
  | e :: L, hn => by
    simp only [List.map_cons, List.nodup_cons] at hn
    obtain ⟨h1, h2⟩ := setL_keys (k := k) (v := v) hn.2
    unfold setL
    by_cases he : e.1 = k
    · rw [if_pos he]
      subst he
      simp only [List.map_cons, List.nodup_cons]
      refine ⟨hn, fun x => ?_⟩
      simp
    · rw [if_neg he]
      simp only [List.map_cons, List.nodup_cons]
      refine ⟨⟨fun h => ?_, h1⟩, fun x => ?_⟩
      · rcases (h2 _).1 h with h | h
        · exact he h
        · exact hn.1 h
      · rw [List.mem_cons, h2 x, List.mem_cons]
        constructor
        · rintro (h | h | h)
          · exact .inr (.inl h)
          · exact .inl h
          · exact .inr (.inr h)
        · rintro (h | h | h)
          · exact .inr (.inl h)
          · exact .inl h
          · exact .inr (.inr h)
theorem dropL_keys {k : κ} {L : List (κ × Value)} (hn : (L.map (·.1)).Nodup) : ((dropL k L).map (·.1)).Nodup := hn.sublist ((List.filter_sublist).map _)
theorem dropL_of_not {k : κ} {L : List (κ × Value)} (h : ∀ e ∈ L, e.1 ≠ k) : dropL k L = L := List.filter_eq_self.2 fun e he => by simpa using h e he
theorem dropL_erase {k : κ} {v : Value} : ∀ {L : List (κ × Value)} {n : Nat}, (L.map (·.1)).Nodup → L[n]? = some (k, v) → dropL k L = L.eraseIdx n
  | [], n, _, h => by simp at h
  | e :: L, 0, hn, h => by
    simp only [List.getElem?_cons_zero, Option.some.injEq] at h
    subst h
    simp only [List.map_cons, List.nodup_cons] at hn
    have : dropL k L = L := dropL_of_not fun x hx he => hn.1 (by rw [← he]; exact List.mem_map.2 ⟨_, hx, rfl⟩)
    simp only [dropL] at this ⊢
    rw [List.filter_cons, this]
    simp
  | e :: L, n + 1, hn, h => by
    simp only [List.getElem?_cons_succ] at h
    simp only [List.map_cons, List.nodup_cons] at hn
    have he : e.1 ≠ k := fun he => hn.1 (by rw [he]; exact List.mem_map.2 ⟨_, List.mem_of_getElem? h, rfl⟩)
    have := dropL_erase hn.2 h
    simp only [dropL] at this ⊢
    rw [List.filter_cons, this]
    simp [he]

structure KeyOk (P : Program) (kt : TypeId) (enc : κ → Value) : Prop where
  find : ∀ (k : κ) (l : List MapEntry) (L : List (κ × Value)) (w : World), entE l = entL enc L → (Instr.findKey kt (enc k) l).run P w = .ok (look k L 0) w
  check : ∀ (e : Bool) (k : κ) (w : World), (Instr.checkKey e 10000 kt (enc k)).run P w = .ok () w
  same : ∀ k, Instr.sameBits 10000 (enc k) (enc k) = true
  inj : ∀ a b, enc a = enc b → a = b

variable {P : Program} {kt et mt : TypeId} {enc : κ → Value} {w w' : World} {b r : Nat} {L rest : List (κ × Value)}

theorem findAsking_st (eq : ∀ a b w, (Op.equal kt (enc a) (enc b)).run P w = .ok (decide (a = b)) w) (k : κ) (w : World) : ∀ (l : List MapEntry) (L : List (κ × Value)) (i : Nat), entE l = entL enc L →
    (Instr.findAsking kt (enc k) l i).run P w = .ok (look k L i) w
  | [], L, i, h => by
    have : L = [] := by simpa [entE, entL] using h.symm
    subst this
    simp [Instr.findAsking, look]
  | x :: l, [], i, h => by simp [entE, entL] at h
  | x :: l, e :: L, i, h => by
    simp only [entE, entL, List.map_cons, List.cons.injEq, Prod.mk.injEq] at h
    obtain ⟨⟨hk, hv⟩, ht⟩ := h
    have he : (Op.equal kt (enc k) x.key).run P w = .ok (decide (k = e.1)) w := by rw [hk]; exact eq _ _ w
    by_cases hq : k = e.1
    · simp only [Instr.findAsking, Sem.run_bind, he, Result.andThen_ok, look, hv]
      rw [if_pos hq.symm]
      simp [hq]
    · have hj := findAsking_st eq k w l L (i + 1) ht
      simp only [Instr.findAsking, Sem.run_bind, he, Result.andThen_ok]
      rw [show look k (e :: L) i = look k L (i + 1) by conv => lhs; unfold look; rw [if_neg (fun h => hq h.symm)]]
      simpa [hq] using hj
theorem KeyOk.of_struct {fs : Array Field} (und : P.underlying kt = some (.struct fs)) (eq : ∀ a b w, (Op.equal kt (enc a) (enc b)).run P w = .ok (decide (a = b)) w)
    (check : ∀ (e : Bool) (k : κ) (w : World), (Instr.checkKey e 10000 kt (enc k)).run P w = .ok () w) (same : ∀ k, Instr.sameBits 10000 (enc k) (enc k) = true) (inj : ∀ a b, enc a = enc b → a = b) : KeyOk P kt enc where
  find := fun k l L w h => by
    have hj := findAsking_st eq k w l L 0 h
    cases l with
    | nil =>
      have : L = [] := by simpa [entE, entL] using h.symm
      subst this
      simp [Instr.findKey, run_underlying und, Instr.findNow, look]
    | cons x l => simp only [Instr.findKey, Sem.run_bind, run_underlying und, Result.andThen_ok, Instr.findNow, Instr.sameNow]; exact hj
  check := check
  same := same
  inj := inj

theorem MapAt.look_run (h : MapAt enc w b L) (K : KeyOk P kt enc) (ht : P.underlying mt = some (.map kt et)) {z : Value} (hz : (zeroValue et).run P w = .ok z w) (k : κ) (c : Bool) :
    (Instr.lookup mt (.map (some b)) (enc k) c).run P w = .ok (if c = true then .tuple #[(getL k L).getD z, .bool (getL k L).isSome] else (getL k L).getD z) w := by
  obtain ⟨es, clock, hb, hm, -⟩ := h
  have hf := K.find k es.toList L w hm
  cases hl : look k L 0 with
  | none =>
    rw [hl] at hf
    obtain ⟨h1, -⟩ := look_none hl
    cases c <;> simp [Instr.lookup, run_underlying ht, MapKept.run_getObj_map hb, K.check, hf, hz, h1]
  | some jv =>
    obtain ⟨j, v⟩ := jv
    rw [hl] at hf
    obtain ⟨n, -, -, h1, -⟩ := look_some hl
    cases c <;> simp [Instr.lookup, run_underlying ht, MapKept.run_getObj_map hb, K.check, hf, h1]
theorem look_nil_run (K : KeyOk P kt enc) (ht : P.underlying mt = some (.map kt et)) {z : Value} (hz : (zeroValue et).run P w = .ok z w) (k : κ) (c : Bool) :
    (Instr.lookup mt (.map none) (enc k) c).run P w = .ok (if c = true then .tuple #[z, .bool false] else z) w := by
  have hf := K.find k [] [] w rfl
  simp only [look] at hf
  cases c <;> simp [Instr.lookup, run_underlying ht, K.check, hf, hz]

theorem MapAt.update_run (h : MapAt enc w b L) (K : KeyOk P kt enc) (ht : P.underlying mt = some (.map kt et)) (k : κ) (v : Value) :
    ∃ w', (Instr.mapUpdate mt (.map (some b)) (enc k) v).run P w = .ok () w' ∧ MapAt enc w' b (setL k v L) ∧ w.grownBy w' (some b) ∧ w'.heap.size = w.heap.size := by
  obtain ⟨es, clock, hb, hm, h1, h2, h3⟩ := h
  have hf := K.find k es.toList L w hm
  have hlen : es.toList.length = L.length := by simpa [entE, entL] using congrArg List.length hm
  cases hl : look k L 0 with
  | none =>
    rw [hl] at hf
    obtain ⟨-, h4, h5⟩ := look_none hl
    refine ⟨{ w with heap := w.heap.setIfInBounds b (.map (es.push { key := enc k, val := v, born := clock }) (clock + 1)) }, ?_, ⟨_, _, (heap_set hb).1, ?_, ?_, ?_, (setL_keys h3).1⟩, ⟨rfl, rfl, rfl, by simp, fun i hi hne => (heap_set hb).2 i fun e => hne (by rw [e])⟩, by simp⟩
    · simp [Instr.mapUpdate, run_underlying ht, MapKept.run_getObj_map hb, K.check, hf, MapKept.run_setObj_map _ hb, Result.andThen]
    · rw [h5 v]
      simp only [entE, entL] at hm
      simp [entE, entL, hm]
    · intro x hx
      simp only [Array.toList_push, List.mem_append, List.mem_singleton] at hx
      rcases hx with hx | rfl
      · have := h1 x hx; omega
      · exact Nat.lt_succ_self _
    · simp only [Array.toList_push, List.map_append, List.map_cons, List.map_nil]
      refine List.nodup_append.2 ⟨h2, by simp, ?_⟩
      intro a ha c hc
      simp only [List.mem_singleton] at hc
      subst hc
      obtain ⟨x, hx, rfl⟩ := List.mem_map.1 ha
      exact Nat.ne_of_lt (h1 x hx)
  | some jv =>
    obtain ⟨j, v0⟩ := jv
    rw [hl] at hf
    obtain ⟨n, hjn, h4, -, h5⟩ := look_some hl
    obtain rfl : j = n := by omega
    have hjL : j < L.length := (List.getElem?_eq_some_iff.1 h4).1
    have hjs : j < es.size := by have : es.toList.length = es.size := rfl; omega
    have hkey : es[j].key = enc k := by
      have := congrArg (fun l => l[j]?) hm
      simp only [entE, entL, List.getElem?_map, h4, Option.map_some, Array.getElem?_toList, Array.getElem?_eq_getElem hjs, Option.some.injEq, Prod.mk.injEq] at this
      exact this.1
    have hstay : (Instr.keyThatStays (enc k) (enc k)).run P w = .ok (enc k) w := by simp [Instr.keyThatStays, K.same]
    refine ⟨{ w with heap := w.heap.setIfInBounds b (.map (es.modify j fun e => { e with key := enc k, val := v }) clock) }, ?_, ⟨_, _, (heap_set hb).1, ?_, ?_, ?_, (setL_keys h3).1⟩, ⟨rfl, rfl, rfl, by simp, fun i hi hne => (heap_set hb).2 i fun e => hne (by rw [e])⟩, by simp⟩
    · simp [Instr.mapUpdate, run_underlying ht, MapKept.run_getObj_map hb, K.check, hf, Array.getElem?_eq_getElem hjs, hkey, hstay, MapKept.run_setObj_map _ hb, Result.andThen]
    · rw [h5 v]
      simp only [entL, List.map_set]
      simp only [entL] at hm
      rw [← hm]
      apply List.ext_getElem?
      intro i
      simp only [entE, List.getElem?_map, Array.getElem?_toList, Array.getElem?_modify, List.getElem?_set, List.length_map]
      by_cases hij : j = i
      · subst hij
        simp [hjs]
      · simp [hij]
    · intro x hx
      obtain ⟨i, hi⟩ := List.getElem?_of_mem hx
      rw [Array.getElem?_toList, Array.getElem?_modify] at hi
      by_cases hij : j = i
      · subst hij
        simp only [if_true, Array.getElem?_eq_getElem hjs, Option.map_some, Option.some.injEq] at hi
        rw [← hi]
        have := h1 es[j] (by simp)
        exact this
      · rw [if_neg hij] at hi
        exact h1 x (List.mem_of_getElem? (by rwa [Array.getElem?_toList]))
    · have : (es.modify j fun e => { e with key := enc k, val := v }).toList.map (·.born) = es.toList.map (·.born) := by
        apply List.ext_getElem?
        intro i
        simp only [List.getElem?_map, Array.getElem?_toList, Array.getElem?_modify]
        by_cases hij : j = i
        · subst hij
          simp only [if_true]
          cases es[j]? <;> rfl
        · simp [hij]
      rw [this]
      exact h2

theorem erase_list {es : Array MapEntry} {j : Nat} (hjs : j < es.size) : (es.eraseIdxIfInBounds j).toList = es.toList.eraseIdx j := by
  unfold Array.eraseIdxIfInBounds
  rw [dif_pos hjs]
  simp
theorem eraseIdx_map' {α β : Type} (f : α → β) : ∀ (l : List α) (n : Nat), (l.eraseIdx n).map f = (l.map f).eraseIdx n
  | [], _ => by simp
  | a :: l, 0 => by simp
  | a :: l, n + 1 => by simp [eraseIdx_map' f l n]
/-- 'delete', whether the key is there or not: the entries that are left are entries that were. -/
theorem delete_es (K : KeyOk P kt enc) (ht : P.underlying mt = some (.map kt et)) (k : κ) (ty : TypeId) {es : Array MapEntry} {clock : Nat} (hb : w.heap[b]? = some (.map es clock)) (hm : entE es.toList = entL enc L) (h3 : (L.map (·.1)).Nodup) :
    ∃ es', (Builtin.delete_ #[mt, kt] ty #[.map (some b), enc k]).run P w = .ok (.tuple #[]) (setBlock w b (.map es' clock)) ∧ es'.toList.Sublist es.toList ∧ entE es'.toList = entL enc (dropL k L) := by
  have hf := K.find k es.toList L w hm
  have hlen : es.toList.length = L.length := by simpa [entE, entL] using congrArg List.length hm
  cases hl : look k L 0 with
  | none =>
    rw [hl] at hf
    obtain ⟨-, h4, -⟩ := look_none hl
    refine ⟨es, ?_, List.Sublist.refl _, by rw [dropL_of_not h4]; exact hm⟩
    simp [Builtin.delete_, run_underlying ht, MapKept.run_getObj_map hb, K.check, hf, MapKept.run_setObj_map _ hb, Result.andThen, setBlock]
  | some jv =>
    obtain ⟨j, v0⟩ := jv
    rw [hl] at hf
    obtain ⟨n, hjn, h4, -, -⟩ := look_some hl
    obtain rfl : j = n := by omega
    have hjL : j < L.length := (List.getElem?_eq_some_iff.1 h4).1
    have hjs : j < es.size := by have : es.toList.length = es.size := rfl; omega
    refine ⟨es.eraseIdxIfInBounds j, ?_, by rw [erase_list hjs]; exact List.eraseIdx_sublist _ _, ?_⟩
    · simp [Builtin.delete_, run_underlying ht, MapKept.run_getObj_map hb, K.check, hf, MapKept.run_setObj_map _ hb, Result.andThen, setBlock]
    · rw [erase_list hjs, dropL_erase h3 h4]
      simp only [entE, entL] at hm ⊢
      rw [eraseIdx_map', eraseIdx_map', hm]
theorem MapAt.delete_run (h : MapAt enc w b L) (K : KeyOk P kt enc) (ht : P.underlying mt = some (.map kt et)) (k : κ) (ty : TypeId) :
    ∃ w', (Builtin.delete_ #[mt, kt] ty #[.map (some b), enc k]).run P w = .ok (.tuple #[]) w' ∧ MapAt enc w' b (dropL k L) ∧ w.grownBy w' (some b) ∧ w'.heap.size = w.heap.size := by
  have hlt := h.lt
  obtain ⟨es, clock, hb, hm, h1, h2, h3⟩ := h
  obtain ⟨es', hrun, hsub, hes⟩ := delete_es (ty := ty) K ht k hb hm h3
  exact ⟨_, hrun, ⟨es', clock, (heap_set hb).1, hes, fun x hx => h1 x (hsub.subset hx), h2.sublist (hsub.map _), dropL_keys h3⟩, setBlock_grown hlt _, setBlock_size _⟩
theorem RangeAt.delete_run (h : RangeAt enc w b r L rest) (K : KeyOk P kt enc) (ht : P.underlying mt = some (.map kt et)) (k : κ) (ty : TypeId) :
    ∃ w', (Builtin.delete_ #[mt, kt] ty #[.map (some b), enc k]).run P w = .ok (.tuple #[]) w' ∧ RangeAt enc w' b r (dropL k L) (dropL k rest) ∧ w.grownBy w' (some b) ∧ w'.heap.size = w.heap.size := by
  classical
  have hlt := h.map.lt
  have hne := h.ne
  obtain ⟨es, clock, since, seen, c0, hb, hm, h1, h2, h3, hr, hold, hsc, hsk, hl⟩ := h
  have hf := K.find k es.toList L w hm
  have hlen : es.toList.length = L.length := by simpa [entE, entL] using congrArg List.length hm
  have keyfilter : ∀ (l : List MapEntry) (M : List (κ × Value)), entE l = entL enc M → entE (l.filter fun x => decide (x.key ≠ enc k)) = entL enc (dropL k M) := by
    intro l
    induction l with
    | nil =>
      intro M h
      have : M = [] := by simpa [entE, entL] using h.symm
      subst this
      rfl
    | cons x l ih =>
      intro M h
      cases M with
      | nil => simp [entE, entL] at h
      | cons e M =>
        simp only [entE, entL, List.map_cons, List.cons.injEq, Prod.mk.injEq] at h
        have := ih M h.2
        by_cases he : e.1 = k
        · have hx : x.key = enc k := by rw [h.1.1, he]
          simp only [dropL, entE, entL] at this ⊢
          simp only [List.filter_cons, hx, he, ne_eq, not_true_eq_false, decide_false, Bool.false_eq_true, if_false]
          exact this
        · have hx : x.key ≠ enc k := by rw [h.1.1]; exact fun e => he (K.inj _ _ e)
          simp only [dropL, entE, entL] at this ⊢
          simp only [List.filter_cons, hx, he, ne_eq, not_false_eq_true, decide_true, if_true, List.map_cons]
          rw [this, h.1.1, h.1.2]
  obtain ⟨es', hrun, hsub, hes⟩ := delete_es (ty := ty) K ht k hb hm h3
  have hes' : es'.toList = es.toList.filter fun x => decide (x.key ≠ enc k) := by
    have e1 := keyfilter _ _ hm
    rw [← hes] at e1
    have hs2 : es'.toList.Sublist (es.toList.filter fun x => decide (x.key ≠ enc k)) := by
      have hk : ∀ x ∈ es'.toList, decide (x.key ≠ enc k) = true := by
        intro x hx
        have : (x.key, x.val) ∈ entL enc (dropL k L) := by rw [← hes]; exact List.mem_map.2 ⟨x, hx, rfl⟩
        obtain ⟨e, he, hee⟩ := List.mem_map.1 this
        simp only [Prod.mk.injEq] at hee
        have hek : e.1 ≠ k := by simpa [dropL] using (List.mem_filter.1 he).2
        rw [← hee.1]
        simpa using fun e => hek (K.inj _ _ e)
      rw [← List.filter_eq_self.2 hk]
      exact hsub.filter _
    refine hs2.eq_of_length ?_
    have := congrArg List.length e1
    simpa [entE] using this.symm
  refine ⟨_, hrun, ⟨es', clock, since, seen, c0, (heap_set hb).1, hes, fun x hx => h1 x (hsub.subset hx), h2.sublist (hsub.map _), dropL_keys h3, ((heap_set hb).2 r hne).trans hr, fun x hx => hold x (hsub.subset hx), hsc, hsk, ?_⟩, setBlock_grown hlt _, setBlock_size _⟩
  have : (leftOf es' seen).toList = (leftOf es seen).toList.filter fun x => decide (x.key ≠ enc k) := by
    unfold leftOf
    rw [Array.toList_filter, Array.toList_filter, hes', List.filter_filter, List.filter_filter]
    refine List.filter_congr fun y _ => ?_
    rw [Bool.and_comm]
  rw [this]
  exact keyfilter _ _ hl
end

section
variable {κ : Type} [DecidableEq κ] {enc : κ → Value} {P : Program} (w : World) {ops : Array Oper} {rest : List Oper} {o : Oper} {a : Act} {Q : Exit → Act → World → Prop} {b r : Nat} {L left : List (κ × Value)}

theorem wpList_lookup_st (hg : o.guard = none) (m x : Operand) (t : TypeId) (c : Bool) (hop : o.op = Op.lookup t m x c) (kt et : TypeId) (K : KeyOk P kt enc) (ht : P.underlying t = some (.map kt et)) {z : Value} (hz : (zeroValue et).run P w = .ok z w)
    (hm : a.eval m = .map (some b)) (h : MapAt enc w b L) (k : κ) (hx : a.eval x = enc k) {v : Value} (hv : (if c = true then .tuple #[(getL k L).getD z, .bool (getL k L).isSome] else (getL k L).getD z) = v)
    (hK : wpList P ops Q rest (a.put o.dst v) w) : wpList P ops Q (o :: rest) a w := by
  refine wpList_plain hg fun K' hK' => ?_
  subst hv
  have hrun := h.look_run K ht hz k c
  unfold Oper.wp
  simp [execOp, hop, hm, hx, hrun, Result.andThen]
  exact hK' _ _ hK
theorem wpList_update_st (hg : o.guard = none) (m x y : Operand) (t : TypeId) (hop : o.op = Op.mapUpdate t m x y) (kt et : TypeId) (K : KeyOk P kt enc) (ht : P.underlying t = some (.map kt et))
    (hm : a.eval m = .map (some b)) (h : MapAt enc w b L) (k : κ) (hx : a.eval x = enc k) (v : Value) (hy : a.eval y = v)
    (hK : ∀ w', MapAt enc w' b (setL k v L) → w.grownBy w' (some b) → w'.heap.size = w.heap.size → wpList P ops Q rest (a.put o.dst undef) w') : wpList P ops Q (o :: rest) a w := by
  refine wpList_plain hg fun K' hK' => ?_
  obtain ⟨w', hrun, h1, h2, h3⟩ := h.update_run K ht k v
  unfold Oper.wp
  simp [execOp, hop, hm, hx, hy, hrun, Result.andThen]
  exact hK' _ _ (hK w' h1 h2 h3)
theorem wpList_delete_st (hg : o.guard = none) (m x : Operand) (t kt : TypeId) (hop : o.op = Op.call { callee := Callee.builtin Builtin.delete, args := #[m, x], argTypes := #[t, kt] }) (et : TypeId) (K : KeyOk P kt enc) (ht : P.underlying t = some (.map kt et))
    (hm : a.eval m = .map (some b)) (h : MapAt enc w b L) (k : κ) (hx : a.eval x = enc k)
    (hK : ∀ w', MapAt enc w' b (dropL k L) → w.grownBy w' (some b) → w'.heap.size = w.heap.size → wpList P ops Q rest (a.put o.dst (.tuple #[])) w') : wpList P ops Q (o :: rest) a w := by
  refine wpList_plain hg fun K' hK' => ?_
  obtain ⟨w', hrun, h1, h2, h3⟩ := h.delete_run K ht k o.type
  unfold Oper.wp
  simp [execOp, hop, resolve, invoke, builtin, hm, hx, hrun, Result.andThen]
  exact hK' _ _ (hK w' h1 h2 h3)
theorem wpList_delete_range_st (hg : o.guard = none) (m x : Operand) (t kt : TypeId) (hop : o.op = Op.call { callee := Callee.builtin Builtin.delete, args := #[m, x], argTypes := #[t, kt] }) (et : TypeId) (K : KeyOk P kt enc) (ht : P.underlying t = some (.map kt et))
    (hm : a.eval m = .map (some b)) (h : RangeAt enc w b r L left) (k : κ) (hx : a.eval x = enc k)
    (hK : ∀ w', RangeAt enc w' b r (dropL k L) (dropL k left) → w.grownBy w' (some b) → w'.heap.size = w.heap.size → wpList P ops Q rest (a.put o.dst (.tuple #[])) w') : wpList P ops Q (o :: rest) a w := by
  refine wpList_plain hg fun K' hK' => ?_
  obtain ⟨w', hrun, h1, h2, h3⟩ := h.delete_run K ht k o.type
  unfold Oper.wp
  simp [execOp, hop, resolve, invoke, builtin, hm, hx, hrun, Result.andThen]
  exact hK' _ _ (hK w' h1 h2 h3)
end

section
variable {κ : Type} {enc : κ → Value} {P : Program} (w : World) {ops : Array Oper} {rest : List Oper} {o : Oper} {a : Act} {Q : Exit → Act → World → Prop} {b r : Nat} {L left : List (κ × Value)}
theorem wpList_len_st (hg : o.guard = none) (m : Operand) (t kt et : TypeId) (hop : o.op = Op.call { callee := Callee.builtin Builtin.len, args := #[m], argTypes := #[t] }) (ht : P.underlying t = some (.map kt et)) (hm : a.eval m = .map (some b)) (h : MapAt enc w b L)
    (hK : wpList P ops Q rest (a.put o.dst (.int .i64 L.length)) w) : wpList P ops Q (o :: rest) a w := by
  refine wpList_plain hg fun K' hK' => ?_
  have hrun := h.len_run (P := P) ht o.type
  unfold Oper.wp
  simp [execOp, hop, resolve, invoke, builtin, hm, hrun, Result.andThen]
  exact hK' _ _ hK
theorem wpList_range_st (hg : o.guard = none) (m : Operand) (t : TypeId) (hop : o.op = Op.range t m) (kt et : TypeId) (ht : P.underlying t = some (.map kt et)) (hm : a.eval m = .map (some b)) (h : MapAt enc w b L)
    (hK : ∀ w', RangeAt enc w' b w.heap.size L L → Below w.heap.size w w' → w'.heap.size = w.heap.size + 1 → wpList P ops Q rest (a.put o.dst (.pointer (some ⟨w.heap.size, 0, none⟩))) w') : wpList P ops Q (o :: rest) a w := by
  refine wpList_plain hg fun K' hK' => ?_
  obtain ⟨w', hrun, h1, h2, h3⟩ := h.range_run (P := P) ht
  unfold Oper.wp
  simp [execOp, hop, hm, hrun, Result.andThen]
  exact hK' _ _ (hK w' h1 h2 h3)
theorem wpList_next_st (hg : o.guard = none) (it : Operand) (hop : o.op = Op.next it false) (hi : ∀ a b, enc a = enc b → a = b) (hit : a.eval it = .pointer (some ⟨r, 0, none⟩)) (h : RangeAt enc w b r L left)
    (hDone : left = [] → wpList P ops Q rest (a.put o.dst (.tuple #[.bool false])) w)
    (hMore : ∀ pre e post w', left = pre ++ e :: post → RangeAt enc w' b r L (pre ++ post) → w.grownBy w' (some r) → w'.heap.size = w.heap.size → (Instr.entry (.pointer (some ⟨r, 0, none⟩))).run P w' = .ok (.tuple #[enc e.1, e.2]) w' →
      wpList P ops Q rest (a.put o.dst (.tuple #[.bool true, enc e.1, e.2])) w') : wpList P ops Q (o :: rest) a w := by
  refine wpList_plain hg fun K' hK' => ?_
  unfold Oper.wp
  rcases h.next_run (P := P) hi o.type with ⟨h0, hrun⟩ | ⟨pre, e, post, w', h1, hrun, h2, h3, h4, h5⟩
  · simp [execOp, hop, hit, hrun, Result.andThen]
    exact hK' _ _ (hDone h0)
  · simp [execOp, hop, hit, hrun, Result.andThen]
    exact hK' _ _ (hMore pre e post w' h1 h2 h3 h4 h5)
end

end Go.Proofs.Ytpnbibokddhheaa

/-
  clear of a map, whatever its keys.
-/
namespace Go.Proofs.Ytpnbibokddhheaa
open Go.RowKit Go.MapKept

section
variable {κ : Type} {P : Program} {kt et mt : TypeId} {enc : κ → Value} {w w' : World} {b : Nat} {L : List (κ × Value)}
theorem MapAt.clear_run (h : MapAt enc w b L) (ht : P.underlying mt = some (.map kt et)) (ty : TypeId) :
    ∃ w', (Builtin.clear_ #[mt] ty #[.map (some b)]).run P w = .ok (.tuple #[]) w' ∧ MapAt enc w' b ([] : List (κ × Value)) ∧ w.grownBy w' (some b) ∧ w'.heap.size = w.heap.size := by
  have hlt := h.lt
  obtain ⟨es, clock, hb, hm, h1, h2, h3⟩ := h
  refine ⟨_, ?_, ⟨#[], clock, (heap_set hb).1, rfl, by simp, by simp, by simp⟩, setBlock_grown hlt _, setBlock_size _⟩
  simp [Builtin.clear_, run_underlying ht, MapKept.run_getObj_map hb, MapKept.run_setObj_map _ hb, Result.andThen]
  rfl
variable {ops : Array Oper} {Q : Exit → Act → World → Prop} {o : Oper} {rest : List Oper} {a : Act}
theorem wpList_clear_st (hg : o.guard = none) (m : Operand) (t kt : TypeId) (hop : o.op = Op.call { callee := Callee.builtin Builtin.clear, args := #[m], argTypes := #[t] }) (et : TypeId) (ht : P.underlying t = some (.map kt et))
    (hm : a.eval m = .map (some b)) (h : MapAt enc w b L)
    (hK : ∀ w', MapAt enc w' b ([] : List (κ × Value)) → w.grownBy w' (some b) → w'.heap.size = w.heap.size → wpList P ops Q rest (a.put o.dst (.tuple #[])) w') : wpList P ops Q (o :: rest) a w := by
  refine wpList_plain hg fun K' hK' => ?_
  obtain ⟨w', hrun, h1, h2, h3⟩ := h.clear_run ht o.type
  unfold Oper.wp
  simp [execOp, hop, resolve, invoke, builtin, hm, hrun, Result.andThen]
  exact hK' _ _ (hK w' h1 h2 h3)
end

end Go.Proofs.Ytpnbibokddhheaa
