/-
  Maps by what is in them: entries of keys and values, in the order in which they were laid in, whatever the key's type.
-/
import Derived.Maps.RangeWalk
import Derived.Maps.OwnSet
import Derived.Laws.StructEq
import Derived.RegionTactic
import Derived.Test.YtpnbibokddhheaaProg
import Derived.Test.YtpnbibokddhheaaBaa
namespace Go.Proofs.Ytpnbibokddhheaa
open Go.RowKit Go.MapKept
open Go.ChangeMaps (setBlock)

def entL {κ : Type} (enc : κ → Value) (L : List (κ × Value)) : List (Value × Value) := L.map fun e => (enc e.1, e.2)
def entE (l : List MapEntry) : List (Value × Value) := l.map fun x => (x.key, x.val)

section
variable {κ : Type} {P : Program} {kt et mt : TypeId} {enc : κ → Value} {w w' : World} {b r : Nat} {L rest : List (κ × Value)}

/-- Block b of w is a map of just these entries. -/
def MapAt (enc : κ → Value) (w : World) (b : Nat) (L : List (κ × Value)) : Prop :=
  ∃ es clock, w.heap[b]? = some (.map es clock) ∧ entE es.toList = entL enc L ∧ (∀ x ∈ es.toList, x.born < clock) ∧ (es.toList.map (·.born)).Nodup ∧ (L.map (·.1)).Nodup
/-- Block r of w ranges over the map in block b: what is in the map, and which of it is still to come. -/
def RangeAt (enc : κ → Value) (w : World) (b r : Nat) (L rest : List (κ × Value)) : Prop :=
  ∃ es clock since seen c0, w.heap[b]? = some (.map es clock) ∧ entE es.toList = entL enc L ∧ (∀ x ∈ es.toList, x.born < clock) ∧ (es.toList.map (·.born)).Nodup ∧ (L.map (·.1)).Nodup ∧
    w.heap[r]? = some (.mapIter (some b) since seen c0) ∧ (∀ x ∈ es.toList, x.born < since) ∧ since ≤ c0 ∧ since ≤ clock ∧ entE (leftOf es seen).toList = entL enc rest

theorem MapAt.nodup (h : MapAt enc w b L) : (L.map (·.1)).Nodup := by obtain ⟨_, _, _, _, _, _, h⟩ := h; exact h
theorem MapAt.lt (h : MapAt enc w b L) : b < w.heap.size := by
  obtain ⟨_, _, h, _⟩ := h
  exact (Array.getElem?_eq_some_iff.1 h).1
theorem MapAt.same (h : MapAt enc w b L) (he : w'.heap[b]? = w.heap[b]?) : MapAt enc w' b L := by
  obtain ⟨es, clock, h, rest⟩ := h
  exact ⟨es, clock, he.trans h, rest⟩
theorem MapAt.below {B : Nat} (h : MapAt enc w b L) (hb : Below B w w') (hB : b < B) : MapAt enc w' b L := h.same (hb.block b hB)
theorem MapAt.grown {row : Option Nat} (h : MapAt enc w b L) (hg : w.grownBy w' row) (hne : some b ≠ row) : MapAt enc w' b L := h.same (hg.block b h.lt hne)
theorem MapAt.alloc (h : MapAt enc w b L) (o : Obj) : MapAt enc (w.alloc o) b L := h.same (Below.heap_alloc w o b h.lt)
theorem MapAt.drew (h : MapAt enc w b L) : MapAt enc w.drew b L := h
theorem MapAt.drewN (h : MapAt enc w b L) (n : Nat) : MapAt enc (w.drewN n) b L := h
theorem MapAt.set_ (h : MapAt enc w b L) {p : Addr} (hp : b ≠ p.block) (u : Value) : MapAt enc (w.setCell p u) b L := h.same (Below.heap_setCell w p u b hp)
theorem MapAt.new (w : World) : MapAt enc (w.alloc (.map #[] 0)) w.heap.size [] := ⟨#[], 0, heap_alloc_new w _, rfl, by simp, by simp, by simp⟩

theorem MapAt.len_run (h : MapAt enc w b L) (ht : P.underlying mt = some (.map kt et)) (ty : TypeId) : (Builtin.len_ #[mt] ty #[.map (some b)]).run P w = .ok (.int .i64 L.length) w := by
  obtain ⟨es, clock, hb, hm, -⟩ := h
  have hlen : es.size = L.length := by simpa [entE, entL] using congrArg List.length hm
  simp [Builtin.len_, run_underlying ht, MapKept.run_getObj_map hb, Result.andThen, hlen, goInt]

theorem setBlock_grown (_hb : b < w.heap.size) (o : Obj) : w.grownBy (setBlock w b o) (some b) :=
  ⟨rfl, rfl, rfl, by simp [setBlock], fun i _ hne => by
    have : b ≠ i := fun e => hne (by rw [e])
    simp [setBlock, this]⟩
theorem setBlock_size (o : Obj) : (setBlock w b o).heap.size = w.heap.size := by simp [setBlock]
theorem RangeAt.map (h : RangeAt enc w b r L rest) : MapAt enc w b L := by
  obtain ⟨es, clock, _, _, _, h1, h2, h3, h4, h5, _⟩ := h
  exact ⟨es, clock, h1, h2, h3, h4, h5⟩
theorem RangeAt.left_eq (h : RangeAt enc w b r L rest) : w.rangeLeft b r = rest.length := by
  obtain ⟨es, clock, since, seen, c0, hb, _, _, _, _, hr, _, _, _, hl⟩ := h
  have := congrArg List.length hl
  simp only [World.rangeLeft, hb, hr]
  simpa [entE, entL] using this
theorem RangeAt.ne (h : RangeAt enc w b r L rest) : r ≠ b := by
  obtain ⟨es, clock, since, seen, c0, hb, _, _, _, _, hr, _⟩ := h
  intro e
  rw [e, hb] at hr
  cases hr
theorem RangeAt.lt (h : RangeAt enc w b r L rest) : r < w.heap.size := by
  obtain ⟨es, clock, since, seen, c0, hb, _, _, _, _, hr, _⟩ := h
  exact (Array.getElem?_eq_some_iff.1 hr).1
theorem RangeAt.same (h : RangeAt enc w b r L rest) (hb' : w'.heap[b]? = w.heap[b]?) (hr' : w'.heap[r]? = w.heap[r]?) : RangeAt enc w' b r L rest := by
  obtain ⟨es, clock, since, seen, c0, hb, x1, x2, x3, x4, hr, rest⟩ := h
  exact ⟨es, clock, since, seen, c0, hb'.trans hb, x1, x2, x3, x4, hr'.trans hr, rest⟩
theorem RangeAt.grown {row : Option Nat} (h : RangeAt enc w b r L rest) (hg : w.grownBy w' row) (hb' : some b ≠ row) (hr' : some r ≠ row) : RangeAt enc w' b r L rest :=
  h.same (hg.block b h.map.lt hb') (hg.block r h.lt hr')
theorem RangeAt.below {B : Nat} (h : RangeAt enc w b r L rest) (hg : Below B w w') (hb' : b < B) (hr' : r < B) : RangeAt enc w' b r L rest := h.same (hg.block b hb') (hg.block r hr')
theorem RangeAt.alloc (h : RangeAt enc w b r L rest) (o : Obj) : RangeAt enc (w.alloc o) b r L rest := h.same (Below.heap_alloc w o b h.map.lt) (Below.heap_alloc w o r h.lt)

theorem MapAt.range_run (h : MapAt enc w b L) (ht : P.underlying mt = some (.map kt et)) :
    ∃ w', (Instr.range mt (.map (some b))).run P w = .ok (.pointer (some ⟨w.heap.size, 0, none⟩)) w' ∧ RangeAt enc w' b w.heap.size L L ∧ Below w.heap.size w w' ∧ w'.heap.size = w.heap.size + 1 := by
  have hlt := h.lt
  obtain ⟨es, clock, hb, hm, h1, h2, h3⟩ := h
  refine ⟨_, run_range_map w mt kt et b es clock ht hb, ⟨es, clock, clock, #[], clock, (Below.heap_alloc w _ b hlt).trans hb, hm, h1, h2, h3, heap_alloc_new w _, h1, Nat.le_refl _, Nat.le_refl _, ?_⟩, (Below.refl _ _).alloc (Nat.le_refl _) _, by simp⟩
  rw [← hm]
  have : leftOf es #[] = es := by unfold leftOf; exact Array.filter_eq_self.2 (by simp)
  rw [this]
theorem entL_split {l1 l2 : List MapEntry} {x : MapEntry} (_hi : ∀ a b, enc a = enc b → a = b) (h : entE (l1 ++ x :: l2) = entL enc rest) :
    ∃ pre e post, rest = pre ++ e :: post ∧ entE l1 = entL enc pre ∧ entE l2 = entL enc post ∧ x.key = enc e.1 ∧ x.val = e.2 := by
  simp only [entE, entL, List.map_append, List.map_cons] at h
  obtain ⟨pre, q, rfl, h1, h2⟩ := List.map_eq_append_iff.1 h.symm
  obtain ⟨e, post, rfl, h3, h4⟩ := List.map_eq_cons_iff.1 h2
  simp only [Prod.mk.injEq] at h3
  exact ⟨pre, e, post, rfl, h1.symm, h4.symm, h3.1.symm, h3.2.symm⟩
theorem RangeAt.next_run (h : RangeAt enc w b r L rest) (hi : ∀ a b, enc a = enc b → a = b) (ty : TypeId) :
    (rest = [] ∧ (Instr.next (.pointer (some ⟨r, 0, none⟩)) false ty).run P w = .ok (.tuple #[.bool false]) w) ∨
    ∃ pre e post w', rest = pre ++ e :: post ∧ (Instr.next (.pointer (some ⟨r, 0, none⟩)) false ty).run P w = .ok (.tuple #[.bool true, enc e.1, e.2]) w' ∧ RangeAt enc w' b r L (pre ++ post) ∧ w.grownBy w' (some r) ∧ w'.heap.size = w.heap.size ∧
      (Instr.entry (.pointer (some ⟨r, 0, none⟩))).run P w' = .ok (.tuple #[enc e.1, e.2]) w' := by
  have hne := h.ne
  obtain ⟨es, clock, since, seen, c0, hb, hm, h1, h2, h3, hr, hold, hsc, hsk, hl⟩ := h
  rcases run_next_at (P := P) w ty r b since c0 seen es clock hr hb hold hsc with ⟨h0, hrun⟩ | ⟨x, he, w1, hal, hrun⟩
  · refine Or.inl ⟨?_, hrun⟩
    have : (leftOf es seen).toList = [] := by rw [Array.eq_empty_of_size_eq_zero h0]
    rw [this] at hl
    simpa [entE, entL] using hl.symm
  · obtain ⟨hem, hes⟩ := mem_left he
    obtain ⟨l1, l2, hll⟩ := List.append_of_mem he
    rw [hll] at hl
    obtain ⟨pre, e, post, rfl, e1, e2, e3, e4⟩ := entL_split hi hl
    have hr1 : w1.heap[r]? = some (.mapIter (some b) since seen c0) := by rcases hal with rfl | rfl <;> exact hr
    have hb1 : w1.heap[b]? = some (.map es clock) := by rcases hal with rfl | rfl <;> exact hb
    have hset := heap_set (o' := .mapIter (some b) since (seen.push x.born) clock) hr1
    have hb' : (setBlock w1 r (.mapIter (some b) since (seen.push x.born) clock)).heap[b]? = some (.map es clock) := (hset.2 b (fun e1 => hne e1.symm)).trans hb1
    have hborn : ((leftOf es seen).toList.map (·.born)).Nodup := h2.sublist (List.Sublist.map _ (by unfold leftOf; rw [Array.toList_filter]; exact List.filter_sublist))
    have hleft : (leftOf es (seen.push x.born)).toList = l1 ++ l2 := by
      have : (leftOf es (seen.push x.born)).toList = (leftOf es seen).toList.filter fun y => !(y.born == x.born) := by
        unfold leftOf
        rw [Array.toList_filter, Array.toList_filter, List.filter_filter]
        refine List.filter_congr fun y _ => ?_
        rw [contains_push]
        cases seen.contains y.born <;> cases (y.born == x.born) <;> rfl
      rw [this, hll]
      rw [hll, List.map_append, List.map_cons] at hborn
      have hb2 := List.nodup_append.1 hborn
      have hb3 := List.nodup_cons.1 hb2.2.1
      rw [List.filter_append, List.filter_cons]
      simp only [beq_self_eq_true, Bool.not_true, Bool.false_eq_true, if_false]
      congr 1
      · refine List.filter_eq_self.2 fun y hy => ?_
        have := hb2.2.2 y.born (List.mem_map.2 ⟨y, hy, rfl⟩) x.born (by simp)
        simpa using this
      · refine List.filter_eq_self.2 fun y hy => ?_
        have : y.born ≠ x.born := fun e => hb3.1 (by rw [← e]; exact List.mem_map.2 ⟨y, hy, rfl⟩)
        simpa using this
    refine Or.inr ⟨pre, e, post, _, rfl, by rw [← e3, ← e4]; exact hrun, ⟨es, clock, since, seen.push x.born, clock, hb', hm, h1, h2, h3, hset.1, hold, hsk, hsk, ?_⟩, ?_, ?_, by rw [← e3, ← e4]; exact run_entry_at _ r b since seen es clock x hset.1 hb' hem h2⟩
    · rw [hleft]
      simp only [entE, entL, List.map_append] at e1 e2 ⊢
      rw [e1, e2]
    · rcases hal with rfl | rfl <;> exact ⟨rfl, rfl, rfl, by simp [setBlock], fun i _ hi => hset.2 i (fun e1 => hi (by rw [e1]))⟩
    · rcases hal with rfl | rfl <;> simp [setBlock]
end

section
variable {κ : Type} [DecidableEq κ]

def look (k : κ) : List (κ × Value) → Nat → Option (Nat × Value)
  | [], _ => none
  | e :: L, i => if e.1 = k then some (i, e.2) else look k L (i + 1)
def getL (k : κ) : List (κ × Value) → Option Value
  | [] => none
  | e :: L => if e.1 = k then some e.2 else getL k L
def setL (k : κ) (v : Value) : List (κ × Value) → List (κ × Value)
  | [] => [(k, v)]
  | e :: L => if e.1 = k then (k, v) :: L else e :: setL k v L
def dropL (k : κ) (L : List (κ × Value)) : List (κ × Value) := L.filter fun e => decide (e.1 ≠ k)

theorem look_none {k : κ} : ∀ {L : List (κ × Value)} {i : Nat}, look k L i = none → getL k L = none ∧ (∀ e ∈ L, e.1 ≠ k) ∧ ∀ v, setL k v L = L ++ [(k, v)]
  | [], _, _ => ⟨rfl, by simp, fun _ => rfl⟩
  | e :: L, i, h => by
    unfold look at h
    by_cases he : e.1 = k
    · rw [if_pos he] at h; cases h
    · rw [if_neg he] at h
      obtain ⟨h1, h2, h3⟩ := look_none h
      refine ⟨by simp [getL, he, h1], ?_, fun v => by simp [setL, he, h3 v]⟩
      intro x hx
      rcases List.mem_cons.1 hx with rfl | hx
      · exact he
      · exact h2 x hx
theorem look_some {k : κ} : ∀ {L : List (κ × Value)} {i j : Nat} {v : Value}, look k L i = some (j, v) → ∃ n, j = i + n ∧ L[n]? = some (k, v) ∧ getL k L = some v ∧ ∀ v', setL k v' L = L.set n (k, v')
  | [], _, _, _, h => by cases h
  | e :: L, i, j, v, h => by
    unfold look at h
    by_cases he : e.1 = k
    · rw [if_pos he] at h
      simp only [Option.some.injEq, Prod.mk.injEq] at h
      obtain ⟨rfl, rfl⟩ := h
      exact ⟨0, rfl, by simp [← he], by simp [getL, he], fun v' => by simp [setL, he]⟩
    · rw [if_neg he] at h
      obtain ⟨n, rfl, h1, h2, h3⟩ := look_some h
      exact ⟨n + 1, by omega, by simpa using h1, by simp [getL, he, h2], fun v' => by simp [setL, he, h3 v']⟩
theorem getL_none {k : κ} : ∀ {L : List (κ × Value)}, getL k L = none ↔ ∀ e ∈ L, e.1 ≠ k
  | [] => by simp [getL]
  | e :: L => by
    by_cases he : e.1 = k
    · simp [getL, he]
    · simp [getL, he, getL_none (k := k) (L := L)]
theorem getL_mem {k : κ} {v : Value} : ∀ {L : List (κ × Value)}, getL k L = some v → (k, v) ∈ L
  | [], h => by cases h
  | e :: L, h => by
    unfold getL at h
    by_cases he : e.1 = k
    · rw [if_pos he] at h
      simp only [Option.some.injEq] at h
      subst he h
      simp
    · rw [if_neg he] at h
      exact List.mem_cons_of_mem _ (getL_mem h)
theorem getL_of_mem {k : κ} {v : Value} : ∀ {L : List (κ × Value)}, (L.map (·.1)).Nodup → (k, v) ∈ L → getL k L = some v
  | [], _, h => by simp at h
  | e :: L, hn, h => by
    simp only [List.map_cons, List.nodup_cons] at hn
    unfold getL
    rcases List.mem_cons.1 h with rfl | h
    · simp
    · have : e.1 ≠ k := fun he => hn.1 (by rw [he]; exact List.mem_map.2 ⟨_, h, rfl⟩)
      rw [if_neg this]
      exact getL_of_mem hn.2 h
theorem setL_keys {k : κ} {v : Value} : ∀ {L : List (κ × Value)}, (L.map (·.1)).Nodup → ((setL k v L).map (·.1)).Nodup ∧ ∀ x, x ∈ (setL k v L).map (·.1) ↔ x = k ∨ x ∈ L.map (·.1)
  | [], _ => by simp [setL]
  | e :: L, hn => by
    simp only [List.map_cons, List.nodup_cons] at hn
    obtain ⟨h1, h2⟩ := setL_keys (k := k) (v := v) hn.2
    unfold setL
    by_cases he : e.1 = k
    · rw [if_pos he]
      subst he
      simp only [List.map_cons, List.nodup_cons]
      refine ⟨hn, fun x => ?_⟩
      simp
    · rw [if_neg he]
      simp only [List.map_cons, List.nodup_cons]
      refine ⟨⟨fun h => ?_, h1⟩, fun x => ?_⟩
      · rcases (h2 _).1 h with h | h
        · exact he h
        · exact hn.1 h
      · rw [List.mem_cons, h2 x, List.mem_cons]
        constructor
        · rintro (h | h | h)
          · exact .inr (.inl h)
          · exact .inl h
          · exact .inr (.inr h)
        · rintro (h | h | h)
          · exact .inr (.inl h)
          · exact .inl h
          · exact .inr (.inr h)
theorem dropL_keys {k : κ} {L : List (κ × Value)} (hn : (L.map (·.1)).Nodup) : ((dropL k L).map (·.1)).Nodup := hn.sublist ((List.filter_sublist).map _)
theorem dropL_of_not {k : κ} {L : List (κ × Value)} (h : ∀ e ∈ L, e.1 ≠ k) : dropL k L = L := List.filter_eq_self.2 fun e he => by simpa using h e he
theorem dropL_erase {k : κ} {v : Value} : ∀ {L : List (κ × Value)} {n : Nat}, (L.map (·.1)).Nodup → L[n]? = some (k, v) → dropL k L = L.eraseIdx n
  | [], n, _, h => by simp at h
  | e :: L, 0, hn, h => by
    simp only [List.getElem?_cons_zero, Option.some.injEq] at h
    subst h
    simp only [List.map_cons, List.nodup_cons] at hn
    have : dropL k L = L := dropL_of_not fun x hx he => hn.1 (by rw [← he]; exact List.mem_map.2 ⟨_, hx, rfl⟩)
    simp only [dropL] at this ⊢
    rw [List.filter_cons, this]
    simp
  | e :: L, n + 1, hn, h => by
    simp only [List.getElem?_cons_succ] at h
    simp only [List.map_cons, List.nodup_cons] at hn
    have he : e.1 ≠ k := fun he => hn.1 (by rw [he]; exact List.mem_map.2 ⟨_, List.mem_of_getElem? h, rfl⟩)
    have := dropL_erase hn.2 h
    simp only [dropL] at this ⊢
    rw [List.filter_cons, this]
    simp [he]

structure KeyOk (P : Program) (kt : TypeId) (enc : κ → Value) : Prop where
  find : ∀ (k : κ) (l : List MapEntry) (L : List (κ × Value)) (w : World), entE l = entL enc L → (Instr.findKey kt (enc k) l).run P w = .ok (look k L 0) w
  check : ∀ (e : Bool) (k : κ) (w : World), (Instr.checkKey e 10000 kt (enc k)).run P w = .ok () w
  same : ∀ k, Instr.sameBits 10000 (enc k) (enc k) = true
  inj : ∀ a b, enc a = enc b → a = b

variable {P : Program} {kt et mt : TypeId} {enc : κ → Value} {w w' : World} {b r : Nat} {L rest : List (κ × Value)}

theorem findAsking_st (eq : ∀ a b w, (Op.equal kt (enc a) (enc b)).run P w = .ok (decide (a = b)) w) (k : κ) (w : World) : ∀ (l : List MapEntry) (L : List (κ × Value)) (i : Nat), entE l = entL enc L →
    (Instr.findAsking kt (enc k) l i).run P w = .ok (look k L i) w
  | [], L, i, h => by
    have : L = [] := by simpa [entE, entL] using h.symm
    subst this
    simp [Instr.findAsking, look]
  | x :: l, [], i, h => by simp [entE, entL] at h
  | x :: l, e :: L, i, h => by
    simp only [entE, entL, List.map_cons, List.cons.injEq, Prod.mk.injEq] at h
    obtain ⟨⟨hk, hv⟩, ht⟩ := h
    have he : (Op.equal kt (enc k) x.key).run P w = .ok (decide (k = e.1)) w := by rw [hk]; exact eq _ _ w
    by_cases hq : k = e.1
    · simp only [Instr.findAsking, Sem.run_bind, he, Result.andThen_ok, look, hv]
      rw [if_pos hq.symm]
      simp [hq]
    · have hj := findAsking_st eq k w l L (i + 1) ht
      simp only [Instr.findAsking, Sem.run_bind, he, Result.andThen_ok]
      rw [show look k (e :: L) i = look k L (i + 1) by conv => lhs; unfold look; rw [if_neg (fun h => hq h.symm)]]
      simpa [hq] using hj
theorem KeyOk.of_struct {fs : Array Field} (und : P.underlying kt = some (.struct fs)) (eq : ∀ a b w, (Op.equal kt (enc a) (enc b)).run P w = .ok (decide (a = b)) w)
    (check : ∀ (e : Bool) (k : κ) (w : World), (Instr.checkKey e 10000 kt (enc k)).run P w = .ok () w) (same : ∀ k, Instr.sameBits 10000 (enc k) (enc k) = true) (inj : ∀ a b, enc a = enc b → a = b) : KeyOk P kt enc where
  find := fun k l L w h => by
    have hj := findAsking_st eq k w l L 0 h
    cases l with
    | nil =>
      have : L = [] := by simpa [entE, entL] using h.symm
      subst this
      simp [Instr.findKey, run_underlying und, Instr.findNow, look]
    | cons x l => simp only [Instr.findKey, Sem.run_bind, run_underlying und, Result.andThen_ok, Instr.findNow, Instr.sameNow]; exact hj
  check := check
  same := same
  inj := inj

theorem MapAt.look_run (h : MapAt enc w b L) (K : KeyOk P kt enc) (ht : P.underlying mt = some (.map kt et)) {z : Value} (hz : (zeroValue et).run P w = .ok z w) (k : κ) (c : Bool) :
    (Instr.lookup mt (.map (some b)) (enc k) c).run P w = .ok (if c = true then .tuple #[(getL k L).getD z, .bool (getL k L).isSome] else (getL k L).getD z) w := by
  obtain ⟨es, clock, hb, hm, -⟩ := h
  have hf := K.find k es.toList L w hm
  cases hl : look k L 0 with
  | none =>
    rw [hl] at hf
    obtain ⟨h1, -⟩ := look_none hl
    cases c <;> simp [Instr.lookup, run_underlying ht, MapKept.run_getObj_map hb, K.check, hf, hz, h1]
  | some jv =>
    obtain ⟨j, v⟩ := jv
    rw [hl] at hf
    obtain ⟨n, -, -, h1, -⟩ := look_some hl
    cases c <;> simp [Instr.lookup, run_underlying ht, MapKept.run_getObj_map hb, K.check, hf, h1]
theorem look_nil_run (K : KeyOk P kt enc) (ht : P.underlying mt = some (.map kt et)) {z : Value} (hz : (zeroValue et).run P w = .ok z w) (k : κ) (c : Bool) :
    (Instr.lookup mt (.map none) (enc k) c).run P w = .ok (if c = true then .tuple #[z, .bool false] else z) w := by
  have hf := K.find k [] [] w rfl
  simp only [look] at hf
  cases c <;> simp [Instr.lookup, run_underlying ht, K.check, hf, hz]

theorem MapAt.update_run (h : MapAt enc w b L) (K : KeyOk P kt enc) (ht : P.underlying mt = some (.map kt et)) (k : κ) (v : Value) :
    ∃ w', (Instr.mapUpdate mt (.map (some b)) (enc k) v).run P w = .ok () w' ∧ MapAt enc w' b (setL k v L) ∧ w.grownBy w' (some b) ∧ w'.heap.size = w.heap.size := by
  obtain ⟨es, clock, hb, hm, h1, h2, h3⟩ := h
  have hf := K.find k es.toList L w hm
  have hlen : es.toList.length = L.length := by simpa [entE, entL] using congrArg List.length hm
  cases hl : look k L 0 with
  | none =>
    rw [hl] at hf
    obtain ⟨-, h4, h5⟩ := look_none hl
    refine ⟨{ w with heap := w.heap.setIfInBounds b (.map (es.push { key := enc k, val := v, born := clock }) (clock + 1)) }, ?_, ⟨_, _, (heap_set hb).1, ?_, ?_, ?_, (setL_keys h3).1⟩, ⟨rfl, rfl, rfl, by simp, fun i hi hne => (heap_set hb).2 i fun e => hne (by rw [e])⟩, by simp⟩
    · simp [Instr.mapUpdate, run_underlying ht, MapKept.run_getObj_map hb, K.check, hf, MapKept.run_setObj_map _ hb, Result.andThen]
    · rw [h5 v]
      simp only [entE, entL] at hm
      simp [entE, entL, hm]
    · intro x hx
      simp only [Array.toList_push, List.mem_append, List.mem_singleton] at hx
      rcases hx with hx | rfl
      · have := h1 x hx; omega
      · exact Nat.lt_succ_self _
    · simp only [Array.toList_push, List.map_append, List.map_cons, List.map_nil]
      refine List.nodup_append.2 ⟨h2, by simp, ?_⟩
      intro a ha c hc
      simp only [List.mem_singleton] at hc
      subst hc
      obtain ⟨x, hx, rfl⟩ := List.mem_map.1 ha
      exact Nat.ne_of_lt (h1 x hx)
  | some jv =>
    obtain ⟨j, v0⟩ := jv
    rw [hl] at hf
    obtain ⟨n, hjn, h4, -, h5⟩ := look_some hl
    obtain rfl : j = n := by omega
    have hjL : j < L.length := (List.getElem?_eq_some_iff.1 h4).1
    have hjs : j < es.size := by have : es.toList.length = es.size := rfl; omega
    have hkey : es[j].key = enc k := by
      have := congrArg (fun l => l[j]?) hm
      simp only [entE, entL, List.getElem?_map, h4, Option.map_some, Array.getElem?_toList, Array.getElem?_eq_getElem hjs, Option.some.injEq, Prod.mk.injEq] at this
      exact this.1
    have hstay : (Instr.keyThatStays (enc k) (enc k)).run P w = .ok (enc k) w := by simp [Instr.keyThatStays, K.same]
    refine ⟨{ w with heap := w.heap.setIfInBounds b (.map (es.modify j fun e => { e with key := enc k, val := v }) clock) }, ?_, ⟨_, _, (heap_set hb).1, ?_, ?_, ?_, (setL_keys h3).1⟩, ⟨rfl, rfl, rfl, by simp, fun i hi hne => (heap_set hb).2 i fun e => hne (by rw [e])⟩, by simp⟩
    · simp [Instr.mapUpdate, run_underlying ht, MapKept.run_getObj_map hb, K.check, hf, Array.getElem?_eq_getElem hjs, hkey, hstay, MapKept.run_setObj_map _ hb, Result.andThen]
    · rw [h5 v]
      simp only [entL, List.map_set]
      simp only [entL] at hm
      rw [← hm]
      apply List.ext_getElem?
      intro i
      simp only [entE, List.getElem?_map, Array.getElem?_toList, Array.getElem?_modify, List.getElem?_set, List.length_map]
      by_cases hij : j = i
      · subst hij
        simp [hjs]
      · simp [hij]
    · intro x hx
      obtain ⟨i, hi⟩ := List.getElem?_of_mem hx
      rw [Array.getElem?_toList, Array.getElem?_modify] at hi
      by_cases hij : j = i
      · subst hij
        simp only [if_true, Array.getElem?_eq_getElem hjs, Option.map_some, Option.some.injEq] at hi
        rw [← hi]
        have := h1 es[j] (by simp)
        exact this
      · rw [if_neg hij] at hi
        exact h1 x (List.mem_of_getElem? (by rwa [Array.getElem?_toList]))
    · have : (es.modify j fun e => { e with key := enc k, val := v }).toList.map (·.born) = es.toList.map (·.born) := by
        apply List.ext_getElem?
        intro i
        simp only [List.getElem?_map, Array.getElem?_toList, Array.getElem?_modify]
        by_cases hij : j = i
        · subst hij
          simp only [if_true]
          cases es[j]? <;> rfl
        · simp [hij]
      rw [this]
      exact h2

theorem erase_list {es : Array MapEntry} {j : Nat} (hjs : j < es.size) : (es.eraseIdxIfInBounds j).toList = es.toList.eraseIdx j := by
  unfold Array.eraseIdxIfInBounds
  rw [dif_pos hjs]
  simp
theorem eraseIdx_map' {α β : Type} (f : α → β) : ∀ (l : List α) (n : Nat), (l.eraseIdx n).map f = (l.map f).eraseIdx n
  | [], _ => by simp
  | a :: l, 0 => by simp
  | a :: l, n + 1 => by simp [eraseIdx_map' f l n]
/-- 'delete', whether the key is there or not: the entries that are left are entries that were. -/
theorem delete_es (K : KeyOk P kt enc) (ht : P.underlying mt = some (.map kt et)) (k : κ) (ty : TypeId) {es : Array MapEntry} {clock : Nat} (hb : w.heap[b]? = some (.map es clock)) (hm : entE es.toList = entL enc L) (h3 : (L.map (·.1)).Nodup) :
    ∃ es', (Builtin.delete_ #[mt, kt] ty #[.map (some b), enc k]).run P w = .ok (.tuple #[]) (setBlock w b (.map es' clock)) ∧ es'.toList.Sublist es.toList ∧ entE es'.toList = entL enc (dropL k L) := by
  have hf := K.find k es.toList L w hm
  have hlen : es.toList.length = L.length := by simpa [entE, entL] using congrArg List.length hm
  cases hl : look k L 0 with
  | none =>
    rw [hl] at hf
    obtain ⟨-, h4, -⟩ := look_none hl
    refine ⟨es, ?_, List.Sublist.refl _, by rw [dropL_of_not h4]; exact hm⟩
    simp [Builtin.delete_, run_underlying ht, MapKept.run_getObj_map hb, K.check, hf, MapKept.run_setObj_map _ hb, Result.andThen, setBlock]
  | some jv =>
    obtain ⟨j, v0⟩ := jv
    rw [hl] at hf
    obtain ⟨n, hjn, h4, -, -⟩ := look_some hl
    obtain rfl : j = n := by omega
    have hjL : j < L.length := (List.getElem?_eq_some_iff.1 h4).1
    have hjs : j < es.size := by have : es.toList.length = es.size := rfl; omega
    refine ⟨es.eraseIdxIfInBounds j, ?_, by rw [erase_list hjs]; exact List.eraseIdx_sublist _ _, ?_⟩
    · simp [Builtin.delete_, run_underlying ht, MapKept.run_getObj_map hb, K.check, hf, MapKept.run_setObj_map _ hb, Result.andThen, setBlock]
    · rw [erase_list hjs, dropL_erase h3 h4]
      simp only [entE, entL] at hm ⊢
      rw [eraseIdx_map', eraseIdx_map', hm]
theorem MapAt.delete_run (h : MapAt enc w b L) (K : KeyOk P kt enc) (ht : P.underlying mt = some (.map kt et)) (k : κ) (ty : TypeId) :
    ∃ w', (Builtin.delete_ #[mt, kt] ty #[.map (some b), enc k]).run P w = .ok (.tuple #[]) w' ∧ MapAt enc w' b (dropL k L) ∧ w.grownBy w' (some b) ∧ w'.heap.size = w.heap.size := by
  have hlt := h.lt
  obtain ⟨es, clock, hb, hm, h1, h2, h3⟩ := h
  obtain ⟨es', hrun, hsub, hes⟩ := delete_es (ty := ty) K ht k hb hm h3
  exact ⟨_, hrun, ⟨es', clock, (heap_set hb).1, hes, fun x hx => h1 x (hsub.subset hx), h2.sublist (hsub.map _), dropL_keys h3⟩, setBlock_grown hlt _, setBlock_size _⟩
theorem RangeAt.delete_run (h : RangeAt enc w b r L rest) (K : KeyOk P kt enc) (ht : P.underlying mt = some (.map kt et)) (k : κ) (ty : TypeId) :
    ∃ w', (Builtin.delete_ #[mt, kt] ty #[.map (some b), enc k]).run P w = .ok (.tuple #[]) w' ∧ RangeAt enc w' b r (dropL k L) (dropL k rest) ∧ w.grownBy w' (some b) ∧ w'.heap.size = w.heap.size := by
  classical
  have hlt := h.map.lt
  have hne := h.ne
  obtain ⟨es, clock, since, seen, c0, hb, hm, h1, h2, h3, hr, hold, hsc, hsk, hl⟩ := h
  have hf := K.find k es.toList L w hm
  have hlen : es.toList.length = L.length := by simpa [entE, entL] using congrArg List.length hm
  have keyfilter : ∀ (l : List MapEntry) (M : List (κ × Value)), entE l = entL enc M → entE (l.filter fun x => decide (x.key ≠ enc k)) = entL enc (dropL k M) := by
    intro l
    induction l with
    | nil =>
      intro M h
      have : M = [] := by simpa [entE, entL] using h.symm
      subst this
      rfl
    | cons x l ih =>
      intro M h
      cases M with
      | nil => simp [entE, entL] at h
      | cons e M =>
        simp only [entE, entL, List.map_cons, List.cons.injEq, Prod.mk.injEq] at h
        have := ih M h.2
        by_cases he : e.1 = k
        · have hx : x.key = enc k := by rw [h.1.1, he]
          simp only [dropL, entE, entL] at this ⊢
          simp only [List.filter_cons, hx, he, ne_eq, not_true_eq_false, decide_false, Bool.false_eq_true, if_false]
          exact this
        · have hx : x.key ≠ enc k := by rw [h.1.1]; exact fun e => he (K.inj _ _ e)
          simp only [dropL, entE, entL] at this ⊢
          simp only [List.filter_cons, hx, he, ne_eq, not_false_eq_true, decide_true, if_true, List.map_cons]
          rw [this, h.1.1, h.1.2]
  obtain ⟨es', hrun, hsub, hes⟩ := delete_es (ty := ty) K ht k hb hm h3
  have hes' : es'.toList = es.toList.filter fun x => decide (x.key ≠ enc k) := by
    have e1 := keyfilter _ _ hm
    rw [← hes] at e1
    have hs2 : es'.toList.Sublist (es.toList.filter fun x => decide (x.key ≠ enc k)) := by
      have hk : ∀ x ∈ es'.toList, decide (x.key ≠ enc k) = true := by
        intro x hx
        have : (x.key, x.val) ∈ entL enc (dropL k L) := by rw [← hes]; exact List.mem_map.2 ⟨x, hx, rfl⟩
        obtain ⟨e, he, hee⟩ := List.mem_map.1 this
        simp only [Prod.mk.injEq] at hee
        have hek : e.1 ≠ k := by simpa [dropL] using (List.mem_filter.1 he).2
        rw [← hee.1]
        simpa using fun e => hek (K.inj _ _ e)
      rw [← List.filter_eq_self.2 hk]
      exact hsub.filter _
    refine hs2.eq_of_length ?_
    have := congrArg List.length e1
    simpa [entE] using this.symm
  refine ⟨_, hrun, ⟨es', clock, since, seen, c0, (heap_set hb).1, hes, fun x hx => h1 x (hsub.subset hx), h2.sublist (hsub.map _), dropL_keys h3, ((heap_set hb).2 r hne).trans hr, fun x hx => hold x (hsub.subset hx), hsc, hsk, ?_⟩, setBlock_grown hlt _, setBlock_size _⟩
  have : (leftOf es' seen).toList = (leftOf es seen).toList.filter fun x => decide (x.key ≠ enc k) := by
    unfold leftOf
    rw [Array.toList_filter, Array.toList_filter, hes', List.filter_filter, List.filter_filter]
    refine List.filter_congr fun y _ => ?_
    rw [Bool.and_comm]
  rw [this]
  exact keyfilter _ _ hl
end

section
variable {κ : Type} [DecidableEq κ] {enc : κ → Value} {P : Program} (w : World) {ops : Array Oper} {rest : List Oper} {o : Oper} {a : Act} {Q : Exit → Act → World → Prop} {b r : Nat} {L left : List (κ × Value)}

theorem wpList_lookup_st (hg : o.guard = none) (m x : Operand) (t : TypeId) (c : Bool) (hop : o.op = Op.lookup t m x c) (kt et : TypeId) (K : KeyOk P kt enc) (ht : P.underlying t = some (.map kt et)) {z : Value} (hz : (zeroValue et).run P w = .ok z w)
    (hm : a.eval m = .map (some b)) (h : MapAt enc w b L) (k : κ) (hx : a.eval x = enc k) {v : Value} (hv : (if c = true then .tuple #[(getL k L).getD z, .bool (getL k L).isSome] else (getL k L).getD z) = v)
    (hK : wpList P ops Q rest (a.put o.dst v) w) : wpList P ops Q (o :: rest) a w := by
  refine wpList_plain hg fun K' hK' => ?_
  subst hv
  have hrun := h.look_run K ht hz k c
  unfold Oper.wp
  simp [execOp, hop, hm, hx, hrun, Result.andThen]
  exact hK' _ _ hK
theorem wpList_update_st (hg : o.guard = none) (m x y : Operand) (t : TypeId) (hop : o.op = Op.mapUpdate t m x y) (kt et : TypeId) (K : KeyOk P kt enc) (ht : P.underlying t = some (.map kt et))
    (hm : a.eval m = .map (some b)) (h : MapAt enc w b L) (k : κ) (hx : a.eval x = enc k) (v : Value) (hy : a.eval y = v)
    (hK : ∀ w', MapAt enc w' b (setL k v L) → w.grownBy w' (some b) → w'.heap.size = w.heap.size → wpList P ops Q rest (a.put o.dst undef) w') : wpList P ops Q (o :: rest) a w := by
  refine wpList_plain hg fun K' hK' => ?_
  obtain ⟨w', hrun, h1, h2, h3⟩ := h.update_run K ht k v
  unfold Oper.wp
  simp [execOp, hop, hm, hx, hy, hrun, Result.andThen]
  exact hK' _ _ (hK w' h1 h2 h3)
theorem wpList_delete_st (hg : o.guard = none) (m x : Operand) (t kt : TypeId) (hop : o.op = Op.call { callee := Callee.builtin Builtin.delete, args := #[m, x], argTypes := #[t, kt] }) (et : TypeId) (K : KeyOk P kt enc) (ht : P.underlying t = some (.map kt et))
    (hm : a.eval m = .map (some b)) (h : MapAt enc w b L) (k : κ) (hx : a.eval x = enc k)
    (hK : ∀ w', MapAt enc w' b (dropL k L) → w.grownBy w' (some b) → w'.heap.size = w.heap.size → wpList P ops Q rest (a.put o.dst (.tuple #[])) w') : wpList P ops Q (o :: rest) a w := by
  refine wpList_plain hg fun K' hK' => ?_
  obtain ⟨w', hrun, h1, h2, h3⟩ := h.delete_run K ht k o.type
  unfold Oper.wp
  simp [execOp, hop, resolve, invoke, builtin, hm, hx, hrun, Result.andThen]
  exact hK' _ _ (hK w' h1 h2 h3)
theorem wpList_delete_range_st (hg : o.guard = none) (m x : Operand) (t kt : TypeId) (hop : o.op = Op.call { callee := Callee.builtin Builtin.delete, args := #[m, x], argTypes := #[t, kt] }) (et : TypeId) (K : KeyOk P kt enc) (ht : P.underlying t = some (.map kt et))
    (hm : a.eval m = .map (some b)) (h : RangeAt enc w b r L left) (k : κ) (hx : a.eval x = enc k)
    (hK : ∀ w', RangeAt enc w' b r (dropL k L) (dropL k left) → w.grownBy w' (some b) → w'.heap.size = w.heap.size → wpList P ops Q rest (a.put o.dst (.tuple #[])) w') : wpList P ops Q (o :: rest) a w := by
  refine wpList_plain hg fun K' hK' => ?_
  obtain ⟨w', hrun, h1, h2, h3⟩ := h.delete_run K ht k o.type
  unfold Oper.wp
  simp [execOp, hop, resolve, invoke, builtin, hm, hx, hrun, Result.andThen]
  exact hK' _ _ (hK w' h1 h2 h3)
end

section
variable {κ : Type} {enc : κ → Value} {P : Program} (w : World) {ops : Array Oper} {rest : List Oper} {o : Oper} {a : Act} {Q : Exit → Act → World → Prop} {b r : Nat} {L left : List (κ × Value)}
theorem wpList_len_st (hg : o.guard = none) (m : Operand) (t kt et : TypeId) (hop : o.op = Op.call { callee := Callee.builtin Builtin.len, args := #[m], argTypes := #[t] }) (ht : P.underlying t = some (.map kt et)) (hm : a.eval m = .map (some b)) (h : MapAt enc w b L)
    (hK : wpList P ops Q rest (a.put o.dst (.int .i64 L.length)) w) : wpList P ops Q (o :: rest) a w := by
  refine wpList_plain hg fun K' hK' => ?_
  have hrun := h.len_run (P := P) ht o.type
  unfold Oper.wp
  simp [execOp, hop, resolve, invoke, builtin, hm, hrun, Result.andThen]
  exact hK' _ _ hK
theorem wpList_range_st (hg : o.guard = none) (m : Operand) (t : TypeId) (hop : o.op = Op.range t m) (kt et : TypeId) (ht : P.underlying t = some (.map kt et)) (hm : a.eval m = .map (some b)) (h : MapAt enc w b L)
    (hK : ∀ w', RangeAt enc w' b w.heap.size L L → Below w.heap.size w w' → w'.heap.size = w.heap.size + 1 → wpList P ops Q rest (a.put o.dst (.pointer (some ⟨w.heap.size, 0, none⟩))) w') : wpList P ops Q (o :: rest) a w := by
  refine wpList_plain hg fun K' hK' => ?_
  obtain ⟨w', hrun, h1, h2, h3⟩ := h.range_run (P := P) ht
  unfold Oper.wp
  simp [execOp, hop, hm, hrun, Result.andThen]
  exact hK' _ _ (hK w' h1 h2 h3)
theorem wpList_next_st (hg : o.guard = none) (it : Operand) (hop : o.op = Op.next it false) (hi : ∀ a b, enc a = enc b → a = b) (hit : a.eval it = .pointer (some ⟨r, 0, none⟩)) (h : RangeAt enc w b r L left)
    (hDone : left = [] → wpList P ops Q rest (a.put o.dst (.tuple #[.bool false])) w)
    (hMore : ∀ pre e post w', left = pre ++ e :: post → RangeAt enc w' b r L (pre ++ post) → w.grownBy w' (some r) → w'.heap.size = w.heap.size → (Instr.entry (.pointer (some ⟨r, 0, none⟩))).run P w' = .ok (.tuple #[enc e.1, e.2]) w' →
      wpList P ops Q rest (a.put o.dst (.tuple #[.bool true, enc e.1, e.2])) w') : wpList P ops Q (o :: rest) a w := by
  refine wpList_plain hg fun K' hK' => ?_
  unfold Oper.wp
  rcases h.next_run (P := P) hi o.type with ⟨h0, hrun⟩ | ⟨pre, e, post, w', h1, hrun, h2, h3, h4, h5⟩
  · simp [execOp, hop, hit, hrun, Result.andThen]
    exact hK' _ _ (hDone h0)
  · simp [execOp, hop, hit, hrun, Result.andThen]
    exact hK' _ _ (hMore pre e post w' h1 h2 h3 h4 h5)
end

end Go.Proofs.Ytpnbibokddhheaa

/-
  clear of a map, whatever its keys.
-/
namespace Go.Proofs.Ytpnbibokddhheaa
open Go.RowKit Go.MapKept

section
variable {κ : Type} {P : Program} {kt et mt : TypeId} {enc : κ → Value} {w w' : World} {b : Nat} {L : List (κ × Value)}
theorem MapAt.clear_run (h : MapAt enc w b L) (ht : P.underlying mt = some (.map kt et)) (ty : TypeId) :
    ∃ w', (Builtin.clear_ #[mt] ty #[.map (some b)]).run P w = .ok (.tuple #[]) w' ∧ MapAt enc w' b ([] : List (κ × Value)) ∧ w.grownBy w' (some b) ∧ w'.heap.size = w.heap.size := by
  have hlt := h.lt
  obtain ⟨es, clock, hb, hm, h1, h2, h3⟩ := h
  refine ⟨_, ?_, ⟨#[], clock, (heap_set hb).1, rfl, by simp, by simp, by simp⟩, setBlock_grown hlt _, setBlock_size _⟩
  simp [Builtin.clear_, run_underlying ht, MapKept.run_getObj_map hb, MapKept.run_setObj_map _ hb, Result.andThen]
  rfl
variable {ops : Array Oper} {Q : Exit → Act → World → Prop} {o : Oper} {rest : List Oper} {a : Act}
theorem wpList_clear_st (hg : o.guard = none) (m : Operand) (t kt : TypeId) (hop : o.op = Op.call { callee := Callee.builtin Builtin.clear, args := #[m], argTypes := #[t] }) (et : TypeId) (ht : P.underlying t = some (.map kt et))
    (hm : a.eval m = .map (some b)) (h : MapAt enc w b L)
    (hK : ∀ w', MapAt enc w' b ([] : List (κ × Value)) → w.grownBy w' (some b) → w'.heap.size = w.heap.size → wpList P ops Q rest (a.put o.dst (.tuple #[])) w') : wpList P ops Q (o :: rest) a w := by
  refine wpList_plain hg fun K' hK' => ?_
  obtain ⟨w', hrun, h1, h2, h3⟩ := h.clear_run ht o.type
  unfold Oper.wp
  simp [execOp, hop, resolve, invoke, builtin, hm, hrun, Result.andThen]
  exact hK' _ _ (hK w' h1 h2 h3)
end

end Go.Proofs.Ytpnbibokddhheaa

/-
  Keys as keys of maps.
-/
namespace Go.Proofs.Ytpnbibokddhheaa
open Go.RowKit

structure K3 where
  kind : Int
  id : Int
  adv : Int
deriving DecidableEq
instance : Inhabited K3 := ⟨⟨0, 0, 0⟩⟩
def K3.cells (k : K3) : List Value := [.int .i64 k.kind, .int .i64 k.id, .int .i64 k.adv]
def K3.enc (k : K3) : Value := .agg #[.int .i64 k.kind, .int .i64 k.id, .int .i64 k.adv]
theorem eqK3_n (n : Nat) (a b c a' b' c' : Int) (w : World) : (Op.equalIn (n + 1 + 1) 85 (.agg #[.int .i64 a, .int .i64 b, .int .i64 c]) (.agg #[.int .i64 a', .int .i64 b', .int .i64 c'])).run Try.prog w = .ok (a == a' && b == b' && c == c') w := by
  have hS : Try.prog.underlying 85 = some (.struct (Try.prog.fieldsOf 85)) := by kernel_rfl
  have hp : Try.prog.stoodInHeld 85 = false := by kernel_rfl
  rw [run_equalIn_struct w (n + 1) 85 _ _ hS hp]
  simp only [Program.fieldsOf, Try.underlying85]
  go_simp
  by_cases h1 : a = a' <;> by_cases h2 : b = b' <;> by_cases h3 : c = c' <;> simp [h1, h2, h3]
theorem eqK3 (a b : K3) (w : World) : (Op.equal 85 a.enc b.enc).run Try.prog w = .ok (decide (a = b)) w := by
  obtain ⟨a1, a2, a3⟩ := a
  obtain ⟨b1, b2, b3⟩ := b
  refine (eqK3_n 9998 a1 a2 a3 b1 b2 b3 w).trans ?_
  by_cases h1 : a1 = b1 <;> by_cases h2 : a2 = b2 <;> by_cases h3 : a3 = b3 <;> simp [h1, h2, h3]
theorem checkInt (e : Bool) (n : Nat) (x : Int) (w : World) : (Instr.checkKey e (n + 1) 3 (.int .i64 x)).run Try.prog w = .ok () w := MapKept.run_checkKey Try.underlying3 (by simp [MapKept.IsKey]) e n
theorem checkK3_n (n : Nat) (e : Bool) (a b c : Int) (w : World) : (Instr.checkKey e (n + 1 + 1) 85 (.agg #[.int .i64 a, .int .i64 b, .int .i64 c])).run Try.prog w = .ok () w := by
  have hc : ∀ x w, (Instr.checkKey e (n + 1) 3 (.int .i64 x)).run Try.prog w = .ok () w := fun x w => checkInt e n x w
  rw [Instr.checkKey]
  simp only [Sem.run_bind, run_underlying Try.underlying85, Result.andThen_ok]
  rw [← Array.forIn_toList]
  go_simp
theorem sameBits_agg (n : Nat) : ∀ l : List Value, (∀ v ∈ l, Instr.sameBits n v v = true) → (l.zip l).all (fun (x, y) => Instr.sameBits n x y) = true
  | [], _ => rfl
  | v :: l, h => by
    simp only [List.zip_cons_cons, List.all_cons, Bool.and_eq_true]
    exact ⟨h v (by simp), sameBits_agg n l fun u hu => h u (by simp [hu])⟩
theorem sameBits_int (n : Nat) (x : Int) : Instr.sameBits n (.int .i64 x) (.int .i64 x) = true := by unfold Instr.sameBits; simp
theorem sameK3 (k : K3) : Instr.sameBits 10000 k.enc k.enc = true := by
  rw [show (10000 : Nat) = 9999 + 1 from rfl, K3.enc, Instr.sameBits]
  simp only [beq_self_eq_true, Bool.true_and]
  exact sameBits_agg _ _ fun v hv => by
    simp at hv
    rcases hv with rfl | rfl | rfl <;> exact sameBits_int _ _
theorem K3.enc_inj (a b : K3) (h : a.enc = b.enc) : a = b := by
  obtain ⟨a1, a2, a3⟩ := a
  obtain ⟨b1, b2, b3⟩ := b
  simp [K3.enc] at h
  simp [h]
theorem keyK3 : KeyOk Try.prog 85 K3.enc := KeyOk.of_struct Try.underlying85 eqK3 (fun e _k w => checkK3_n 9998 e _ _ _ w) sameK3 K3.enc_inj

end Go.Proofs.Ytpnbibokddhheaa

/-
  What grew, and what was kept: worlds one behind the other; rows of keys.
-/
namespace Go.Proofs.Ytpnbibokddhheaa
open Go.RowKit

/-- what grew behind draws -/
theorem grown_drewN {w w' : World} {n : Nat} {row : Option Nat} (h : (w.drewN n).grownBy w' row) : w.grownBy w' row := ⟨h.os, h.tape, h.output, h.size, h.block⟩
theorem grown_alloc {w w' : World} {o : Obj} {row : Option Nat} (h : (w.alloc o).grownBy w' row) : w.grownBy w' row :=
  ⟨h.os, h.tape, h.output, by have := h.size; simp at this; omega, fun i hi hne => (h.block i (by simp; omega) hne).trans (Below.heap_alloc w o i hi)⟩
theorem grown_below {w w' w'' : World} {row : Option Nat} (h : w.grownBy w' row) (hb : Below w'.heap.size w' w'') : w.grownBy w'' row := only_below h hb h.size
theorem below_grown {w w' w'' : World} {row : Option Nat} (hb : Below w.heap.size w w') (h : w'.grownBy w'' row) : w.grownBy w'' row :=
  ⟨h.os.trans hb.os, h.tape.trans hb.tape, h.output.trans hb.output, Nat.le_trans hb.size h.size, fun i hi hne => (h.block i (Nat.lt_of_lt_of_le hi hb.size) hne).trans (hb.block i hi)⟩
theorem grown_trans {a c d : World} {row : Option Nat} (h : a.grownBy c row) (k : c.grownBy d row) : a.grownBy d row :=
  ⟨k.os.trans h.os, k.tape.trans h.tape, k.output.trans h.output, Nat.le_trans h.size k.size, fun i hi hne => (k.block i (Nat.lt_of_lt_of_le hi h.size) hne).trans (h.block i hi hne)⟩

theorem row_k3 {w : World} {B : Nat} {A : Option Addr} {l : List K3} (h : RowsAt 3 K3.cells w B A l) (k : Nat) (hk : k < l.length) :
    ∃ b o, A = some ⟨b, o, none⟩ ∧ w.cell? ⟨b, o + k * 3, none⟩ = some (.int .i64 l[k].kind) ∧ w.cell? ⟨b, o + k * 3 + 1, none⟩ = some (.int .i64 l[k].id) ∧ w.cell? ⟨b, o + k * 3 + 2, none⟩ = some (.int .i64 l[k].adv) := by
  obtain ⟨b, o, e, _, hc⟩ := h (by omega)
  exact ⟨b, o, e, by simpa using hc k hk 0 _ (by omega) rfl, hc k hk 1 _ (by omega) rfl, hc k hk 2 _ (by omega) rfl⟩

theorem row_k3_at {w : World} {B g o : Nat} {l : List K3} (h : RowsAt 3 K3.cells w B (some ⟨g, o, none⟩) l) (k : Nat) (hk : k < l.length) :
    w.cell? ⟨g, o + k * 3, none⟩ = some (.int .i64 l[k].kind) ∧ w.cell? ⟨g, o + k * 3 + 1, none⟩ = some (.int .i64 l[k].id) ∧ w.cell? ⟨g, o + k * 3 + 2, none⟩ = some (.int .i64 l[k].adv) := by
  obtain ⟨b0, o0, e, h1⟩ := row_k3 h k hk
  injection e with e
  injection e with e1 e2
  subst e1 e2
  exact h1
theorem rows_grown {α : Type} {C : Nat} {cells : α → List Value} {w : World} {B b : Nat} {A : Option Addr} {M : List α} (h : RowsAt C cells w B A M) (hB : B ≤ w.heap.size) (hne : ∀ g o, A = some ⟨g, o, none⟩ → g < B → g ≠ b) : ∀ W, w.grownBy W (some b) → RowsAt C cells W B A M := by
  intro W hg h0
  obtain ⟨b1, o1, e, hb1, hc⟩ := h h0
  refine ⟨b1, o1, e, hb1, fun k hk i u hi hu => ?_⟩
  have := hg.block b1 (by omega) (fun e2 => hne b1 o1 e hb1 (by injection e2))
  rw [← hc k hk i u hi hu]
  simp [World.cell?, this]

/-- nothing old has turned but the pointer's block and a row -/
structure Kept2 (w w' : World) (q : Nat) (row : Option Nat) : Prop where
  os : w'.os = w.os
  tape : w'.tape = w.tape
  output : w'.output = w.output
  size : w.heap.size ≤ w'.heap.size
  block : ∀ i, i < w.heap.size → i ≠ q → some i ≠ row → w'.heap[i]? = w.heap[i]?
section
variable {w w' w'' : World} {q : Nat} {row : Option Nat}
theorem Kept2.refl (w : World) (q : Nat) (row : Option Nat) : Kept2 w w q row := ⟨rfl, rfl, rfl, Nat.le_refl _, fun _ _ _ _ => rfl⟩
theorem Kept2.keep (h : Kept2 w w' q row) (hb : Below w'.heap.size w' w'') : Kept2 w w'' q row :=
  ⟨hb.os.trans h.os, hb.tape.trans h.tape, hb.output.trans h.output, Nat.le_trans h.size hb.size, fun i hi h1 h2 => (hb.block i (Nat.lt_of_lt_of_le hi h.size)).trans (h.block i hi h1 h2)⟩
theorem Kept2.grown {r2 : Option Nat} (h : Kept2 w w' q row) (hg : w'.grownBy w'' r2) (hr : ∀ g, r2 = some g → row = some g ∨ w.heap.size ≤ g) : Kept2 w w'' q row :=
  ⟨hg.os.trans h.os, hg.tape.trans h.tape, hg.output.trans h.output, Nat.le_trans h.size hg.size, fun i hi h1 h2 => (hg.block i (Nat.lt_of_lt_of_le hi h.size) (fun e => by
    rcases hr i e.symm with h3 | h3
    · exact h2 h3.symm
    · omega)).trans (h.block i hi h1 h2)⟩
theorem Kept2.set_ (h : Kept2 w w' q row) {p : Addr} (hp : p.block = q) (u : Value) : Kept2 w (w'.setCell p u) q row :=
  ⟨h.os, h.tape, h.output, by simpa [World.setCell] using h.size, fun i hi h1 h2 => (Below.heap_setCell w' p u i (by rintro rfl; exact h1 hp)).trans (h.block i hi h1 h2)⟩
theorem Kept2.rows {α : Type} {C : Nat} {cells : α → List Value} {B : Nat} {A : Option Addr} {M : List α} (h : RowsAt C cells w B A M) (hB : B ≤ w.heap.size) (hne : ∀ g o, A = some ⟨g, o, none⟩ → g ≠ q ∧ some g ≠ row) (hk : Kept2 w w' q row) : RowsAt C cells w' B A M := by
  intro h0
  obtain ⟨b1, o1, e, hb1, hc⟩ := h h0
  refine ⟨b1, o1, e, hb1, fun k hk' i u hi hu => ?_⟩
  have := hk.block b1 (by omega) (hne b1 o1 e).1 (hne b1 o1 e).2
  rw [← hc k hk' i u hi hu]
  simp [World.cell?, this]
end
theorem row_k3b {w : World} {B : Nat} {A : Option Addr} {l : List K3} (h : RowsAt 3 K3.cells w B A l) (k : Nat) (hk : k < l.length) :
    ∃ b o, A = some ⟨b, o, none⟩ ∧ b < B ∧ w.cell? ⟨b, o + k * 3, none⟩ = some (.int .i64 l[k].kind) ∧ w.cell? ⟨b, o + k * 3 + 1, none⟩ = some (.int .i64 l[k].id) ∧ w.cell? ⟨b, o + k * 3 + 2, none⟩ = some (.int .i64 l[k].adv) := by
  obtain ⟨b, o, e, hb, hc⟩ := h (by omega)
  exact ⟨b, o, e, hb, by simpa using hc k hk 0 _ (by omega) rfl, hc k hk 1 _ (by omega) rfl, hc k hk 2 _ (by omega) rfl⟩
theorem OwnR.shape2 {α : Type} {e : TypeId} {C : Nat} {cells : α → List Value} {w : World} {B : Nat} {v : Value} {L : List α} (h : OwnR e C cells w B v L) : (v = .slice none 0 0 ∧ L = []) ∨ ∃ g cap, v = .slice (some ⟨g, 0, none⟩) L.length cap ∧ L.length ≤ cap := by
  rcases h.2 with ⟨rfl, hn⟩ | ⟨g, cap, cur, rfl, _, _, hnc, _⟩
  · exact .inl ⟨rfl, List.eq_nil_of_length_eq_zero hn⟩
  · exact .inr ⟨g, cap, rfl, hnc⟩

end Go.Proofs.Ytpnbibokddhheaa

/-
  Which descriptions are right: the program's answer.
-/
namespace Go.Proofs.Ytpnbibokddhheaa
open Go.RowKit

def inB (n a b : Int) : Bool := decide (a ≤ n) && decide (n ≤ b)
def headB (h : Hd) : Bool := inB h.age 0 60 && inB h.kind 1 2 && inB h.adv 1 15 && inB h.seq (-2147483647) 2147483647
def linkB (x : Lnk) : Bool := inB x.kind 2 3 && inB x.id 0 63 && inB x.data 0 63 && inB x.cost 1 100
def linksB (l : List Lnk) : Bool := l.all linkB && decide (l.length ≤ 4)
def memC : Int → List Int → Bool
  | _, [] => true
  | last, x :: l => inB x (last + 1) 15 && memC x l
def membersB (l : List Int) : Bool := memC 0 l && decide (0 < l.length)
def rightB (x : Lsa) : Bool := headB x.head && if x.head.kind = 1 then decide (x.head.id = x.head.adv) && decide (x.members.length = 0) && linksB x.links else inB x.head.id 0 63 && decide (x.links.length = 0) && membersB x.members
theorem in_cases (n a b : Int) : (decide (a ≤ n) = false ∧ inB n a b = false) ∨ (decide (a ≤ n) = true ∧ decide (n ≤ b) = inB n a b) := by
  unfold inB
  cases h : decide (a ≤ n) <;> simp
theorem inB_iff {n a b : Int} : inB n a b = true ↔ a ≤ n ∧ n ≤ b := by simp [inB]

theorem bool4 (a b c d : Bool) : a = false ∨ (a = true ∧ b = false) ∨ (a = true ∧ b = true ∧ c = false) ∨ (a = true ∧ b = true ∧ c = true ∧ d = false) ∨ (a = true ∧ b = true ∧ c = true ∧ d = true) := by
  cases a <;> cases b <;> cases c <;> cases d <;> simp
theorem bool4n (a b c d : Bool) : ((a && b && c && d) = false ∧ (a = false ∨ (a = true ∧ b = false) ∨ (a = true ∧ b = true ∧ c = false) ∨ (a = true ∧ b = true ∧ c = true ∧ d = false))) ∨ ((a && b && c && d) = true ∧ a = true ∧ b = true ∧ c = true ∧ d = true) := by
  cases a <;> cases b <;> cases c <;> cases d <;> simp
set_option maxHeartbeats 1000000 in
theorem in_v (n a b : Int) (w : World) {t : Bool} (ht : inB n a b = t) : Calls Try.prog 77 #[.int .i64 n, .int .i64 a, .int .i64 b] w fun r w' => r = .returned (.bool t) ∧ w = w' := by
  rcases in_cases n a b with ⟨h1, h2⟩ | ⟨h1, h2⟩
  · rw [h2] at ht
    subst ht
    clear h2
    go_enter Try.func77, Try.ntmps77
    go_wp2
    go_ret
    exact ⟨rfl, rfl⟩
  · rw [ht] at h2
    clear ht
    go_enter Try.func77, Try.ntmps77
    go_wp2
    go_ret
    exact ⟨rfl, rfl⟩

set_option maxHeartbeats 2000000 in
set_option maxRecDepth 100000 in
theorem lsaHead_any (a1 a2 a3 a4 a5 a6 a7 : Int) (w : World) {t : Bool} (ht : headB ⟨a1, a2, a3, a4, a5, a6, a7⟩ = t) : Calls Try.prog 75 #[.agg #[.int .i64 a1, .int .i64 a2, .int .i64 a3, .int .i64 a4, .int .i64 a5, .int .i64 a6, .int .i64 a7]] w fun r w' => r = .returned (.bool t) ∧ Below w.heap.size w w' := by
  unfold headB at ht
  simp only at ht
  obtain ⟨t1, h1⟩ : ∃ t1, inB a1 0 60 = t1 := ⟨_, rfl⟩
  obtain ⟨t2, h2⟩ : ∃ t2, inB a2 1 2 = t2 := ⟨_, rfl⟩
  obtain ⟨t3, h3⟩ : ∃ t3, inB a4 1 15 = t3 := ⟨_, rfl⟩
  obtain ⟨t4, h4⟩ : ∃ t4, inB a5 (-2147483647) 2147483647 = t4 := ⟨_, rfl⟩
  rw [h1, h2, h3, h4] at ht
  have H1 := Lib.hid h1
  have H2 := Lib.hid h2
  have H3 := Lib.hid h3
  have H4 := Lib.hid h4
  clear h1 h2 h3 h4
  have Hb := Lib.hid ((Below.refl w.heap.size w).alloc (Nat.le_refl _) (.cells #[.int .i64 a1, .int .i64 a2, .int .i64 a3, .int .i64 a4, .int .i64 a5, .int .i64 a6, .int .i64 a7] 34))
  rcases bool4 t1 t2 t3 t4 with rfl | ⟨rfl, rfl⟩ | ⟨rfl, rfl, rfl⟩ | ⟨rfl, rfl, rfl, rfl⟩ | ⟨rfl, rfl, rfl, rfl⟩
  all_goals
    simp only [Bool.false_and, Bool.and_false, Bool.and_true] at ht
    subst ht
    go_enter Try.func75, Try.ntmps75
    go_wp2_with (first
      | (go_at_call 77; (with_reducible refine Calls.mono (in_v a1 0 60 _ H1.out) ?_); rintro r w2 ⟨rfl, rfl⟩)
      | (go_at_call 77; (with_reducible refine Calls.mono (in_v a2 1 2 _ H2.out) ?_); rintro r w2 ⟨rfl, rfl⟩)
      | (go_at_call 77; (with_reducible refine Calls.mono (in_v a4 1 15 _ H3.out) ?_); rintro r w2 ⟨rfl, rfl⟩)
      | (go_at_call 77; (with_reducible refine Calls.mono (in_v a5 (-2147483647) 2147483647 _ H4.out) ?_); rintro r w2 ⟨rfl, rfl⟩))
    go_ret
    exact ⟨rfl, Hb.out⟩

theorem row_lnk {w : World} {B : Nat} {A : Option Addr} {l : List Lnk} (h : RowsAt 4 Lnk.cells w B A l) (k : Nat) (hk : k < l.length) :
    ∃ b o, A = some ⟨b, o, none⟩ ∧ b < B ∧ w.cell? ⟨b, o + k * 4, none⟩ = some (.int .i64 l[k].kind) ∧ w.cell? ⟨b, o + k * 4 + 1, none⟩ = some (.int .i64 l[k].id) ∧ w.cell? ⟨b, o + k * 4 + 2, none⟩ = some (.int .i64 l[k].data) ∧ w.cell? ⟨b, o + k * 4 + 3, none⟩ = some (.int .i64 l[k].cost) := by
  obtain ⟨b, o, e, hb, hc⟩ := h (by omega)
  exact ⟨b, o, e, hb, by simpa using hc k hk 0 _ (by omega) rfl, hc k hk 1 _ (by omega) rfl, hc k hk 2 _ (by omega) rfl, hc k hk 3 _ (by omega) rfl⟩
theorem row_int {w : World} {B : Nat} {A : Option Addr} {l : List Int} (h : RowsAt 1 icell w B A l) (k : Nat) (hk : k < l.length) :
    ∃ b o, A = some ⟨b, o, none⟩ ∧ b < B ∧ w.cell? ⟨b, o + k, none⟩ = some (.int .i64 l[k]) := by
  obtain ⟨b, o, e, hb, hc⟩ := h (by omega)
  exact ⟨b, o, e, hb, by simpa using hc k hk 0 _ (by omega) rfl⟩

set_option maxHeartbeats 4000000 in
set_option maxRecDepth 100000 in
theorem lsaLinks_any (A : Option Addr) (c : Nat) (l : List Lnk) (w : World) (B : Nat) (h : RowsAt 4 Lnk.cells w B A l) (hB : B ≤ w.heap.size) (hm : l.length ≤ maxLen) {t : Bool} (ht : linksB l = t) (n : Nat) (hn : n = l.length) :
    Calls Try.prog 76 #[.slice A n c] w fun r w' => r = .returned (.bool t) ∧ Below w.heap.size w w' := by
  subst hn
  unfold maxLen at hm
  have H := Lib.hid (h.more hB)
  have Ht := Lib.hid ht
  clear h hB ht
  go_enter Try.func76, Try.ntmps76
  go_wp2
  go_loopw [7] (fun i wr => ∃ k : Nat, i = .int .i64 k ∧ k ≤ l.length ∧ (l.take k).all linkB = true ∧ Below w.heap.size w wr) (fun i _ => l.length - (intOf i).toNat)
  case atStart => exact ⟨0, rfl, Nat.zero_le _, by simp, Below.refl _ _⟩
  case round =>
    obtain ⟨k, rfl, hk, hall, hb⟩ := hrel
    have Hb := Lib.hid hb
    by_cases hlt : k < l.length
    · obtain ⟨g, o, rfl, -, z0, z1, z2, z3⟩ := row_lnk (H.out.below hb) k hlt
      have hkl : (k : Int) < (l.length : Int) := by omega
      have hno : linkB l[k] = false → linksB l = false := fun h => by
        unfold linksB
        have : l.all linkB = false := by
          rw [List.all_eq_false]
          exact ⟨l[k], List.getElem_mem hlt, by simp [h]⟩
        rw [this]; rfl
      have hyes : linkB l[k] = true → (l.take (k + 1)).all linkB = true := fun h => by
        rw [List.take_succ_eq_append_getElem hlt, List.all_append, hall]
        simp [h]
      have Hno := Lib.hid hno
      have Hyes := Lib.hid hyes
      have Hal := Lib.hid (fun o => hb.alloc hb.size o)
      clear hb hno hyes hall
      generalize l[k] = x at *
      obtain ⟨x1, x2, x3, x4⟩ := x
      simp only at z0 z1 z2 z3
      unfold linkB at Hno Hyes
      simp only at Hno Hyes
      obtain ⟨t1, h1⟩ : ∃ t1, inB x1 2 3 = t1 := ⟨_, rfl⟩
      obtain ⟨t2, h2⟩ : ∃ t2, inB x2 0 63 = t2 := ⟨_, rfl⟩
      obtain ⟨t3, h3⟩ : ∃ t3, inB x3 0 63 = t3 := ⟨_, rfl⟩
      obtain ⟨t4, h4⟩ : ∃ t4, inB x4 1 100 = t4 := ⟨_, rfl⟩
      rw [h1, h2, h3, h4] at Hno Hyes
      have H1 := Lib.hid h1
      have H2 := Lib.hid h2
      have H3 := Lib.hid h3
      have H4 := Lib.hid h4
      clear h1 h2 h3 h4
      rcases bool4n t1 t2 t3 t4 with ⟨hv, hd⟩ | ⟨hv, rfl, rfl, rfl, rfl⟩
      · have ht2 : t = false := by rw [← Ht.out]; exact Hno.out hv
        subst ht2
        clear Hyes Hno hv
        rcases hd with rfl | ⟨rfl, rfl⟩ | ⟨rfl, rfl, rfl⟩ | ⟨rfl, rfl, rfl, rfl⟩
        all_goals
          go_wp2_with (first
            | (go_at_call 77; (with_reducible refine Calls.mono (in_v x1 2 3 _ H1.out) ?_); rintro r w2 ⟨rfl, rfl⟩)
            | (go_at_call 77; (with_reducible refine Calls.mono (in_v x4 1 100 _ H4.out) ?_); rintro r w2 ⟨rfl, rfl⟩)
            | (go_at_call 77; (with_reducible refine Calls.mono (in_v x2 0 63 _ H2.out) ?_); rintro r w2 ⟨rfl, rfl⟩)
            | (go_at_call 77; (with_reducible refine Calls.mono (in_v x3 0 63 _ H3.out) ?_); rintro r w2 ⟨rfl, rfl⟩))
          go_ret
          exact ⟨rfl, Hal.out _⟩
      · have Hy := Lib.hid (Hyes.out hv)
        clear Hno Hyes hv
        go_wp2_with (first
          | (go_at_call 77; (with_reducible refine Calls.mono (in_v x1 2 3 _ H1.out) ?_); rintro r w2 ⟨rfl, rfl⟩)
          | (go_at_call 77; (with_reducible refine Calls.mono (in_v x4 1 100 _ H4.out) ?_); rintro r w2 ⟨rfl, rfl⟩)
          | (go_at_call 77; (with_reducible refine Calls.mono (in_v x2 0 63 _ H2.out) ?_); rintro r w2 ⟨rfl, rfl⟩)
          | (go_at_call 77; (with_reducible refine Calls.mono (in_v x3 0 63 _ H3.out) ?_); rintro r w2 ⟨rfl, rfl⟩))
        go_roundw
        case measure => simp [intOf]; omega
        case rel => exact ⟨k + 1, by go_num, hlt, Hy.out, Hal.out _⟩
    · have hkk : k = l.length := by omega
      subst hkk
      rw [List.take_length] at hall
      have ht2 : decide ((l.length : Int) ≤ 4) = t := by
        rw [← Ht.out]
        unfold linksB
        rw [hall, Bool.true_and]
        simp only [decide_eq_decide]
        omega
      clear hb hall
      go_wp2
      go_ret
      exact ⟨rfl, Hb.out⟩

theorem memC_take {last : Int} {l : List Int} {k : Nat} (hk : k < l.length) (h : memC last (l.take k) = true) :
    memC last (l.take (k + 1)) = inB l[k] (((last :: l.take k).getLast (by simp)) + 1) 15 ∧ (inB l[k] (((last :: l.take k).getLast (by simp)) + 1) 15 = false → memC last l = false) := by
  induction l generalizing last k with
  | nil => simp at hk
  | cons x l ih =>
    cases k with
    | zero =>
      simp only [List.take_zero, List.take_succ_cons, memC, List.getElem_cons_zero, Bool.and_true, List.getLast_singleton, true_and]
      intro h2
      rw [h2]; rfl
    | succ k =>
      simp only [List.take_succ_cons, memC, Bool.and_eq_true] at h
      obtain ⟨h1, h2⟩ := ih (last := x) (k := k) (by simpa using hk) h.2
      simp only [List.take_succ_cons, memC, List.getElem_cons_succ, h.1, Bool.true_and]
      rw [List.getLast_cons (by simp)]
      exact ⟨h1, h2⟩

set_option maxHeartbeats 4000000 in
set_option maxRecDepth 100000 in
theorem lsaMembers_any (A : Option Addr) (c : Nat) (l : List Int) (w : World) (B : Nat) (h : RowsAt 1 icell w B A l) (hB : B ≤ w.heap.size) (hm : l.length ≤ maxLen) {t : Bool} (ht : membersB l = t) (n : Nat) (hn : n = l.length) :
    Calls Try.prog 78 #[.slice A n c] w fun r w' => r = .returned (.bool t) ∧ Below w.heap.size w w' := by
  subst hn
  unfold maxLen at hm
  have H := Lib.hid (h.more hB)
  have Ht := Lib.hid ht
  clear h hB ht
  go_enter Try.func78, Try.ntmps78
  go_wp2
  go_loopw [3, 8] (fun la i wr => ∃ (k : Nat) (z : Int), i = .int .i64 k ∧ la = .int .i64 z ∧ k ≤ l.length ∧ memC 0 (l.take k) = true ∧ (((0 : Int) :: l.take k).getLast (by simp)) = z ∧ 0 ≤ z ∧ z ≤ 15 ∧ wr = w) (fun _ i _ => l.length - (intOf i).toNat)
  case atStart => exact ⟨0, 0, rfl, rfl, Nat.zero_le _, rfl, rfl, by omega, by omega, rfl⟩
  case round =>
    obtain ⟨k, z, rfl, rfl, hk, hmem, hz, hz0, hz15, rfl⟩ := hrel
    by_cases hlt : k < l.length
    · obtain ⟨g, o, rfl, -, z0⟩ := row_int H.out k hlt
      have hkl : (k : Int) < (l.length : Int) := by omega
      obtain ⟨m1, m2⟩ := memC_take hlt hmem
      rw [hz] at m1 m2
      have hlast : (((0 : Int) :: l.take (k + 1)).getLast (by simp)) = l[k] := by
        have : (0 : Int) :: l.take (k + 1) = ((0 : Int) :: l.take k) ++ [l[k]] := by rw [List.take_succ_eq_append_getElem hlt]; rfl
        simp only [this, List.getLast_append, List.getLast_singleton]
        simp
      generalize l[k] = x at *
      obtain ⟨t1, h1⟩ : ∃ t1, inB x (z + 1) 15 = t1 := ⟨_, rfl⟩
      rw [h1] at m1 m2
      have H1 := Lib.hid h1
      have Hlast := Lib.hid hlast
      have M1 := Lib.hid m1
      cases t1
      · have ht2 : t = false := by rw [← Ht.out]; unfold membersB; rw [m2 rfl]; rfl
        subst ht2
        clear h1 m1 m2 hlast hmem hz
        go_wp2_with (go_at_call 77; (with_reducible refine Calls.mono (in_v x (z + 1) 15 _ H1.out) ?_); rintro r w2 ⟨rfl, rfl⟩)
        go_ret
        exact ⟨rfl, Below.refl _ _⟩
      · have hx := inB_iff.1 h1
        clear h1 m1 m2 hlast hmem hz
        go_wp2_with (go_at_call 77; (with_reducible refine Calls.mono (in_v x (z + 1) 15 _ H1.out) ?_); rintro r w2 ⟨rfl, rfl⟩)
        go_roundw
        case measure => simp [intOf]; omega
        case rel => exact ⟨k + 1, x, by go_num, rfl, hlt, M1.out, Hlast.out, by omega, by omega, trivial⟩
    · have hkk : k = l.length := by omega
      subst hkk
      have ht2 : decide (0 < l.length) = t := by
        rw [← Ht.out]
        unfold membersB
        rw [List.take_length] at hmem
        rw [hmem, Bool.true_and]
      clear hmem hz
      go_wp2
      go_ret
      exact ⟨rfl, Below.refl _ _⟩

def Lsa.val (x : Lsa) : Value := .agg x.cells.toArray
theorem right_cases (x : Lsa) : (headB x.head = false ∧ rightB x = false) ∨
    (headB x.head = true ∧ (x.head.kind == 1) = true ∧ decide (x.head.id = x.head.adv) = false ∧ rightB x = false) ∨
    (headB x.head = true ∧ (x.head.kind == 1) = true ∧ decide (x.head.id = x.head.adv) = true ∧ x.members.length ≠ 0 ∧ rightB x = false) ∨
    (headB x.head = true ∧ (x.head.kind == 1) = true ∧ decide (x.head.id = x.head.adv) = true ∧ x.members.length = 0 ∧ rightB x = linksB x.links) ∨
    (headB x.head = true ∧ (x.head.kind == 1) = false ∧ inB x.head.id 0 63 = false ∧ rightB x = false) ∨
    (headB x.head = true ∧ (x.head.kind == 1) = false ∧ inB x.head.id 0 63 = true ∧ x.links.length ≠ 0 ∧ rightB x = false) ∨
    (headB x.head = true ∧ (x.head.kind == 1) = false ∧ inB x.head.id 0 63 = true ∧ x.links.length = 0 ∧ rightB x = membersB x.members) := by
  unfold rightB
  by_cases hk : x.head.kind = 1
  · rw [if_pos hk]
    cases headB x.head <;> by_cases h1 : x.head.id = x.head.adv <;> by_cases h2 : x.members.length = 0 <;> simp [hk, h1, h2]
  · rw [if_neg hk]
    cases headB x.head <;> cases inB x.head.id 0 63 <;> by_cases h2 : x.links.length = 0 <;> simp [hk, h2]
theorem blk9 {w : World} {g : Nat} {t : TypeId} {a b c d e f x y z : Value} (h : Blk w g t #[a, b, c, d, e, f, x, y, z]) : w.cell? ⟨g, 0, none⟩ = some a ∧ w.cell? ⟨g, 1, none⟩ = some b ∧ w.cell? ⟨g, 2, none⟩ = some c ∧ w.cell? ⟨g, 3, none⟩ = some d ∧ w.cell? ⟨g, 4, none⟩ = some e ∧ w.cell? ⟨g, 5, none⟩ = some f ∧ w.cell? ⟨g, 6, none⟩ = some x ∧ w.cell? ⟨g, 7, none⟩ = some y ∧ w.cell? ⟨g, 8, none⟩ = some z ∧ ∀ i, w.frozen? ⟨g, i, none⟩ = false :=
  ⟨h.cell 0, h.cell 1, h.cell 2, h.cell 3, h.cell 4, h.cell 5, h.cell 6, h.cell 7, h.cell 8, fun i => h.frozen i⟩
set_option maxHeartbeats 4000000 in
set_option maxRecDepth 100000 in
theorem lsaRight_any (a1 a2 a3 a4 a5 a6 a7 : Int) (ka : Option Addr) (kc : Nat) (ls : List Lnk) (ma : Option Addr) (mc : Nat) (ms : List Int) (w : World) (B : Nat) (hl : RowsAt 4 Lnk.cells w B ka ls) (hm : RowsAt 1 icell w B ma ms) (hB : B ≤ w.heap.size) (hlm : ls.length ≤ maxLen) (hmm : ms.length ≤ maxLen) (nl nm : Nat) (hnl : nl = ls.length) (hnm : nm = ms.length) {t : Bool} (ht : rightB ⟨⟨a1, a2, a3, a4, a5, a6, a7⟩, ka, kc, ls, ma, mc, ms⟩ = t) :
    Calls Try.prog 50 #[.agg #[.int .i64 a1, .int .i64 a2, .int .i64 a3, .int .i64 a4, .int .i64 a5, .int .i64 a6, .int .i64 a7, .slice ka nl kc, .slice ma nm mc]] w fun r w' => r = .returned (.bool t) ∧ Below w.heap.size w w' := by
  have hcs := right_cases ⟨⟨a1, a2, a3, a4, a5, a6, a7⟩, ka, kc, ls, ma, mc, ms⟩
  simp only at hcs
  rw [← hnl, ← hnm] at hcs
  obtain ⟨w0, hW0⟩ : ∃ w0, w.alloc (.cells #[.int .i64 a1, .int .i64 a2, .int .i64 a3, .int .i64 a4, .int .i64 a5, .int .i64 a6, .int .i64 a7, .slice ka nl kc, .slice ma nm mc] 38) = w0 := ⟨_, rfl⟩
  have hk0 := Blk.new w 38 #[.int .i64 a1, .int .i64 a2, .int .i64 a3, .int .i64 a4, .int .i64 a5, .int .i64 a6, .int .i64 a7, .slice ka nl kc, .slice ma nm mc]
  have hb0 := (Below.refl w.heap.size w).alloc (Nat.le_refl _) (.cells #[.int .i64 a1, .int .i64 a2, .int .i64 a3, .int .i64 a4, .int .i64 a5, .int .i64 a6, .int .i64 a7, .slice ka nl kc, .slice ma nm mc] 38)
  rw [hW0] at hk0 hb0
  have Hk0 := Lib.hid hk0
  have Hb0 := Lib.hid hb0
  have Hl := Lib.hid (hl.more hB)
  have Hm := Lib.hid (hm.more hB)
  obtain ⟨z0, z1, z2, z3, z4, z5, z6, z7, z8, -⟩ := blk9 hk0
  clear hl hm hB hk0 hb0
  obtain ⟨th, hth⟩ : ∃ th, headB ⟨a1, a2, a3, a4, a5, a6, a7⟩ = th := ⟨_, rfl⟩
  obtain ⟨tl, htl⟩ : ∃ tl, linksB ls = tl := ⟨_, rfl⟩
  obtain ⟨tm, htm⟩ : ∃ tm, membersB ms = tm := ⟨_, rfl⟩
  obtain ⟨ti, hti⟩ : ∃ ti, inB a3 0 63 = ti := ⟨_, rfl⟩
  rw [hth, htl, htm, hti, ht] at hcs
  have Hth := Lib.hid hth
  have Htl := Lib.hid htl
  have Htm := Lib.hid htm
  have Hti := Lib.hid hti
  clear ht hth htl htm hti
  have HC := Lib.hid (fun W (hW : Below w.heap.size w W) => lsaHead_any a1 a2 a3 a4 a5 a6 a7 W Hth.out)
  have HL := Lib.hid (fun W (hW : Below w.heap.size w W) => lsaLinks_any ka kc ls W w.heap.size (Hl.out.below hW) hW.size hlm Htl.out nl hnl)
  have HM := Lib.hid (fun W (hW : Below w.heap.size w W) => lsaMembers_any ma mc ms W w.heap.size (Hm.out.below hW) hW.size hmm Htm.out nm hnm)
  clear hnl hnm
  rcases hcs with ⟨h1, rfl⟩ | ⟨h1, h2, h3, rfl⟩ | ⟨h1, h2, h3, h4, rfl⟩ | ⟨h1, h2, h3, rfl, rfl⟩ | ⟨h1, h2, h3, rfl⟩ | ⟨h1, h2, h3, h4, rfl⟩ | ⟨h1, h2, h3, rfl, rfl⟩
  all_goals
    subst h1
    go_enter Try.func50, Try.ntmps50
    go_wp2_with fail
    with_reducible refine Calls.mono (HC.out _ Hb0.out) ?_
    rintro r w2 ⟨rfl, hb2⟩
    obtain ⟨y0, y1, y2, y3, y4, y5, y6, y7, y8, -⟩ := blk9 (Hk0.out.below hb2 Hk0.out.lt)
    have Hb2 := Lib.hid (Hb0.out.trans (hb2.mono Hb0.out.size))
    clear z0 z1 z2 z3 z4 z5 z6 z7 z8 hb2
  · go_wp2
    go_ret
    exact ⟨rfl, Hb2.out⟩
  · have g1 := of_decide_eq_false h3
    go_wp2
    go_ret
    exact ⟨rfl, Hb2.out⟩
  · have g1 := of_decide_eq_true h3
    have g2 : ¬(nm : Int) = 0 := by omega
    subst g1
    go_wp2
    go_ret
    exact ⟨rfl, Hb2.out⟩
  · have g1 := of_decide_eq_true h3
    subst g1
    go_wp2_with fail
    with_reducible refine Calls.mono (HL.out _ Hb2.out) ?_
    rintro r w3 ⟨rfl, hb3⟩
    have Hb3 := Lib.hid (Hb2.out.trans (hb3.mono Hb2.out.size))
    clear hb3
    go_wp2
    go_ret
    exact ⟨rfl, Hb3.out⟩
  · subst h3
    go_wp2_with (go_at_call 77; (with_reducible refine Calls.mono (in_v a3 0 63 _ Hti.out) ?_); rintro r w3 ⟨rfl, rfl⟩)
    go_ret
    exact ⟨rfl, Hb2.out⟩
  · subst h3
    have g2 : ¬(nl : Int) = 0 := by omega
    go_wp2_with (go_at_call 77; (with_reducible refine Calls.mono (in_v a3 0 63 _ Hti.out) ?_); rintro r w3 ⟨rfl, rfl⟩)
    go_ret
    exact ⟨rfl, Hb2.out⟩
  · subst h3
    go_wp2_with (first
      | (go_at_call 77; (with_reducible refine Calls.mono (in_v a3 0 63 _ Hti.out) ?_); rintro r w3 ⟨rfl, rfl⟩)
      | (go_at_call 78; (with_reducible refine Calls.mono (HM.out _ Hb2.out) ?_); rintro r w3 ⟨rfl, hb3⟩; have Hb3 := Lib.hid (Hb2.out.trans (hb3.mono Hb2.out.size)); clear hb3))
    go_ret
    exact ⟨rfl, Hb3.out⟩

end Go.Proofs.Ytpnbibokddhheaa

/-
  slices.Clone at the slices that a description has.
-/
namespace Go.Proofs.Ytpnbibokddhheaa
open Go.RowKit

theorem own_empty {α : Type} {e : TypeId} {C : Nat} {cells : α → List Value} (w : World) : OwnR e C cells (w.alloc (.cells #[] e)) w.heap.size (.slice (some ⟨w.heap.size, 0, none⟩) 0 0) ([] : List α) := by
  exact ⟨by simp, .inr ⟨w.heap.size, 0, #[], rfl, Nat.le_refl _, Blk.new w e #[], by simp, by unfold maxLen; omega, by simp, by simp⟩⟩
theorem infoInt' : (Try.prog.info? 3).map (fun i => (i.zero, i.size, i.bytes)) = some (some (.int .i64 0), 1, 8) := by kernel_rfl
theorem onesI (x : Int) : ∀ u ∈ icell x, u.oneCell' = true := by
  intro u hu
  simp [icell] at hu
  subst hu
  rfl
theorem infoLnk : (Try.prog.info? 127).map (fun i => (i.zero, i.size, i.bytes)) = some (some (.agg #[.int .i64 0, .int .i64 0, .int .i64 0, .int .i64 0]), 4, 32) := by kernel_rfl
theorem onesL (x : Lnk) : ∀ u ∈ Lnk.cells x, u.oneCell' = true := by
  intro u hu
  simp [Lnk.cells] at hu
  rcases hu with rfl | rfl | rfl | rfl <;> rfl
set_option maxHeartbeats 2000000 in
set_option maxRecDepth 100000 in
theorem cloneInt (A : Option Addr) (c : Nat) (M : List Int) (w : World) (B : Nat) (h : RowsAt 1 icell w B A M) (hB : B ≤ w.heap.size) (hl : M.length ≤ 2 ^ 20) (n : Nat) (hn : n = M.length) :
    Calls Try.prog 80 #[.slice A n c] w fun r w' => ∃ v, r = .returned v ∧ OwnR 3 1 icell w' w.heap.size v M ∧ Below w.heap.size w w' := by
  subst hn
  cases A with
  | none =>
    have hM : M = [] := by
      rcases Nat.eq_zero_or_pos M.length with h0 | h0
      · exact List.eq_nil_of_length_eq_zero h0
      · obtain ⟨b, o, e, -⟩ := h h0
        cases e
    subst hM
    clear h
    have hnil := fun (w : World) => Lib.run_eql_slice_nil (P := Try.prog) w 36 3 none 0 c 0 0 Try.underlying36
    simp only [List.length_nil]
    go_enter Try.func80, Try.ntmps80
    go_wp2
    go_ret
    exact ⟨_, rfl, OwnR.nil _ _, Below.refl _ _⟩
  | some a =>
    have H := Lib.hid (h.more hB)
    have HE : Hid (OwnR 3 1 icell (w.alloc (.cells #[] 3)) w.heap.size (.slice (some ⟨w.heap.size, 0, none⟩) 0 0) ([] : List Int)) := Lib.hid (own_empty _)
    have hb1 := (Below.refl w.heap.size w).alloc (Nat.le_refl _) (.cells #[] 3)
    have Hb1 := Lib.hid hb1
    clear h hB hb1
    have hnil := fun (w : World) => Lib.run_eql_slice_nil (P := Try.prog) w 36 3 (some a) M.length c 0 0 Try.underlying36
    go_enter Try.func80, Try.ntmps80
    go_wp2_with (at_builtin; (refine app_rows (e := 3) icell (fun _ => rfl) (by decide) (bytes := 8) (by decide) infoInt' rfl Try.underlying36 onesI (by rfl) _ _ (by rfl) w.heap.size _ [] (by rfl) HE.out (some a) c M.length M rfl (by rfl) ((H.out.below Hb1.out).more (by simp)) (by simp; omega) (by simp) ?_); intro v5 w5 hown5 hg5 hor5; have Hown5 := Lib.hid hown5; have Hb5 := Lib.hid (Hb1.out.grown hg5 (by simp) (fun j hj => (HE.out.block j hj).1)); clear hown5 hg5 hor5)
    go_ret
    exact ⟨_, rfl, by simpa using Hown5.out, Hb5.out⟩
set_option maxHeartbeats 2000000 in
set_option maxRecDepth 100000 in
theorem cloneLnk (A : Option Addr) (c : Nat) (M : List Lnk) (w : World) (B : Nat) (h : RowsAt 4 Lnk.cells w B A M) (hB : B ≤ w.heap.size) (hl : M.length ≤ 2 ^ 20) (n : Nat) (hn : n = M.length) :
    Calls Try.prog 79 #[.slice A n c] w fun r w' => ∃ v, r = .returned v ∧ OwnR 127 4 Lnk.cells w' w.heap.size v M ∧ Below w.heap.size w w' := by
  subst hn
  cases A with
  | none =>
    have hM : M = [] := by
      rcases Nat.eq_zero_or_pos M.length with h0 | h0
      · exact List.eq_nil_of_length_eq_zero h0
      · obtain ⟨b, o, e, -⟩ := h h0
        cases e
    subst hM
    clear h
    have hnil := fun (w : World) => Lib.run_eql_slice_nil (P := Try.prog) w 35 127 none 0 c 0 0 Try.underlying35
    simp only [List.length_nil]
    go_enter Try.func79, Try.ntmps79
    go_wp2
    go_ret
    exact ⟨_, rfl, OwnR.nil _ _, Below.refl _ _⟩
  | some a =>
    have H := Lib.hid (h.more hB)
    have HE : Hid (OwnR 127 4 Lnk.cells (w.alloc (.cells #[] 127)) w.heap.size (.slice (some ⟨w.heap.size, 0, none⟩) 0 0) ([] : List Lnk)) := Lib.hid (own_empty _)
    have hb1 := (Below.refl w.heap.size w).alloc (Nat.le_refl _) (.cells #[] 127)
    have Hb1 := Lib.hid hb1
    clear h hB hb1
    have hnil := fun (w : World) => Lib.run_eql_slice_nil (P := Try.prog) w 35 127 (some a) M.length c 0 0 Try.underlying35
    go_enter Try.func79, Try.ntmps79
    go_wp2_with (at_builtin; (refine app_rows (e := 127) Lnk.cells (fun _ => rfl) (by decide) (bytes := 32) (by decide) infoLnk rfl Try.underlying35 onesL (by rfl) _ _ (by rfl) w.heap.size _ [] (by rfl) HE.out (some a) c M.length M rfl (by rfl) ((H.out.below Hb1.out).more (by simp)) (by simp; omega) (by simp) ?_); intro v5 w5 hown5 hg5 hor5; have Hown5 := Lib.hid hown5; have Hb5 := Lib.hid (Hb1.out.grown hg5 (by simp) (fun j hj => (HE.out.block j hj).1)); clear hown5 hg5 hor5)
    go_ret
    exact ⟨_, rfl, by simpa using Hown5.out, Hb5.out⟩

end Go.Proofs.Ytpnbibokddhheaa

/-
  Numbers as bytes: the program's way.
-/
namespace Go.Proofs.Ytpnbibokddhheaa
open Go.RowKit

def bcell (x : Int) : List Value := [.int .u8 x]
abbrev OwnB (w : World) (B : Nat) (v : Value) (l : List Int) : Prop := OwnR 5 1 bcell w B v l
theorem infoB : (Try.prog.info? 5).map (fun i => (i.zero, i.size, i.bytes)) = some (some (.int .u8 0), 1, 1) := by kernel_rfl
theorem onesB (x : Int) : ∀ u ∈ bcell x, u.oneCell' = true := by
  intro u hu
  simp [bcell] at hu
  subst hu
  rfl
def byteI (n : Int) (k : Nat) : Int := n / 2 ^ (8 * k) % 256
/-- a number's lowest bytes, the highest first -/
def beL (k : Nat) (n : Int) : List Int := (List.range k).reverse.map (byteI n)
theorem beL_len (k : Nat) (n : Int) : (beL k n).length = k := by simp [beL]
theorem beL_at (k : Nat) (n : Int) (j : Nat) (hj : j < k) : (beL k n)[j]? = some (byteI n (k - 1 - j)) := by
  unfold beL
  rw [List.getElem?_map, List.getElem?_reverse (by simpa using hj), List.length_range, List.getElem?_range (by omega)]
  rfl
theorem beL_take (k : Nat) (n : Int) (j : Nat) (hj : j < k) : (beL k n).take (j + 1) = (beL k n).take j ++ [byteI n (k - 1 - j)] := by
  have hl : j < (beL k n).length := by rw [beL_len]; exact hj
  rw [List.take_succ_eq_append_getElem hl]
  have := beL_at k n j hj
  rw [List.getElem?_eq_getElem hl] at this
  rw [Option.some.inj this]

set_option maxHeartbeats 1000000 in
theorem wide_v (k : Nat) (h1 : 1 ≤ k) (h4 : k ≤ 4) (w : World) : Calls Try.prog 100 #[.int .i64 k] w fun r w' => r = .returned (.int .i64 k) ∧ w = w' := by
  go_enter Try.func100, Try.ntmps100
  go_wp2
  go_ret
  refine ⟨?_, rfl⟩
  have e1 : max (k : Int) 1 = k := by omega
  have e2 : min (k : Int) 4 = k := by omega
  first
    | rfl
    | (show Ending.returned (.int .i64 (min (max (k : Int) 1) 4)) = _; rw [e1, e2])
theorem wrap_u8 (z : Int) : IntKind.u8.wrap z = z % 256 := by simp [IntKind.wrap, IntKind.bits, IntKind.signed]

set_option maxHeartbeats 4000000 in
set_option maxRecDepth 100000 in
theorem quadPut (A : Option Addr) (c : Nat) (L : List Int) (k : Nat) (h1 : 1 ≤ k) (h4 : k ≤ 4) (A2 : Option Addr) (c2 : Nat) (ns : List Int) (w : World) (B : Nat) (hL : RowsAt 1 bcell w B A L) (hN : RowsAt 1 icell w B A2 ns) (hB : B ≤ w.heap.size) (hll : L.length ≤ 2 ^ 20) (hnl : ns.length ≤ 2 ^ 16) (n n2 : Nat) (hn : n = L.length) (hn2 : n2 = ns.length) :
    Calls Try.prog 96 #[.slice A n c, .int .i64 k, .slice A2 n2 c2] w fun r w' => ∃ v, r = .returned v ∧ OwnB w' w.heap.size v (L ++ ns.flatMap (beL k)) ∧ Below w.heap.size w w' := by
  subst hn hn2
  have HL := Lib.hid (hL.more hB)
  have HN := Lib.hid (hN.more hB)
  have HE := Lib.hid (OwnR.nil (e := 5) (C := 1) (cells := bcell) w w.heap.size)
  clear hL hN hB
  go_enter Try.func96, Try.ntmps96
  go_wp2_with (at_builtin; (refine app_rows (e := 5) bcell (fun _ => rfl) (by decide) (bytes := 1) (by decide) infoB rfl Try.underlying131 onesB (by rfl) _ _ (by rfl) w.heap.size _ [] (by rfl) HE.out A c L.length L rfl (by rfl) HL.out (by simp; omega) (Nat.le_refl _) ?_); intro v5 w5 hown5 hg5 hor5; have Hown5 := Lib.hid hown5; have Hb5 := Lib.hid ((Below.refl w.heap.size w).grown hg5 (Nat.le_refl _) (fun j hj => (HE.out.block j hj).1)); clear hown5 hg5 hor5)
  go_loopw [7, 15] (fun o i wr => ∃ (j : Nat) (M : List Int), i = .int .i64 j ∧ j ≤ ns.length ∧ M = L ++ (ns.take j).flatMap (beL k) ∧ M.length = L.length + j * k ∧ OwnB wr w.heap.size o M ∧ Below w.heap.size w wr) (fun _ i _ => ns.length - (intOf i).toNat)
  case atStart => exact ⟨0, L, rfl, Nat.zero_le _, by simp, by simp, by simpa using Hown5.out, Hb5.out⟩
  case round =>
    obtain ⟨j, M, rfl, hj, hM, hMl, hown, hb⟩ := hrel
    have hjk : j * k ≤ 2 ^ 18 := by
      calc j * k ≤ 2 ^ 16 * 4 := Nat.mul_le_mul (by omega) h4
        _ = 2 ^ 18 := by decide
    have Hown := Lib.hid hown
    have Hb := Lib.hid hb
    have HM := Lib.hid hM
    clear hM
    by_cases hlt : j < ns.length
    · obtain ⟨g, o, rfl, -, z0⟩ := row_int (HN.out.below hb) j hlt
      have hjl : (j : Int) < (ns.length : Int) := by omega
      have hs := List.take_succ_eq_append_getElem hlt
      generalize ns[j] = y at *
      have Hs := Lib.hid hs
      clear hs hown hb
      go_wp2_with (go_at_call 100; (with_reducible refine Calls.mono (wide_v k h1 h4 _) ?_); rintro r w2 ⟨rfl, rfl⟩)
      go_loopw [7, 10] (fun o i wq => ∃ (q : Nat) (K : List Int), i = .int .i64 ((k : Int) - 1 - q) ∧ q ≤ k ∧ K = M ++ (beL k y).take q ∧ K.length = M.length + q ∧ OwnB wq w.heap.size o K ∧ Below w.heap.size w wq) (fun _ i _ => ((intOf i) + 1).toNat)
      case atStart => exact ⟨0, M, by simp, Nat.zero_le _, by simp, by simp, Hown.out, Hb.out⟩
      case round =>
        obtain ⟨wo, rfl⟩ : ∃ wo : World, wo = wr := ⟨_, rfl⟩
        obtain ⟨q, K, rfl, hq, hK, hKl, hown, hb⟩ := hrel
        obtain ⟨A6, c6, hv6⟩ := hown.shape
        rw [hKl] at hv6
        subst hv6
        have HownK := Lib.hid hown
        have Hbq := Lib.hid hb
        have HK := Lib.hid hK
        clear hK hown hb
        by_cases hqk : q < k
        · obtain ⟨i, hi⟩ : ∃ i : Nat, (k : Int) - 1 - q = i ∧ i = k - 1 - q := ⟨k - 1 - q, by omega, rfl⟩
          rw [hi.1]
          have hbt := beL_take k y q hqk
          rw [← hi.2] at hbt
          have Hbt := Lib.hid hbt
          have Hi := Lib.hid hi
          have hi3 : i ≤ 3 := by omega
          clear hbt hi
          have hKn : K.length + 1 ≤ 2 ^ 30 := by omega
          go_wp2_with (at_builtin; (refine app_row (e := 5) bcell (fun _ => rfl) (by decide) (bytes := 1) (by decide) infoB rfl Try.underlying131 onesB (by rfl) _ _ (by rfl) w.heap.size _ K (by rfl) (HownK.out.alloc _) wo.heap.size (byteI y i) (by rfl) (Blk.new _ _ _) hKn (by have := Hbq.out.size; simp; omega) ?_); intro v7 w7 hown7 hg7 hor7; have Hown7 := Lib.hid hown7; have Hb7 := Lib.hid ((Hbq.out.alloc Hbq.out.size _).grown hg7 (by have := Hbq.out.size; simp; omega) (fun j hj => (HownK.out.block j hj).1)); clear hown7 hg7 hor7)
          go_roundw
          case measure => (first | (simp [intOf]; done) | (simp [intOf]; omega))
          case rel => exact ⟨q + 1, K ++ [byteI y i], by rw [show ((k : Int) - 1 - ((q + 1 : Nat) : Int)) = (i : Int) - 1 by have := Hi.out.1; omega], hqk, by rw [Hbt.out, HK.out, List.append_assoc], by rw [List.length_append, hKl, List.length_singleton, Nat.add_assoc], Hown7.out, Hb7.out⟩
        · have hqk' : q = k := by omega
          subst hqk'
          have Hfin := Lib.hid (show K = L ++ (ns.take (j + 1)).flatMap (beL q) by
            have e : (beL q y).take q = beL q y := List.take_of_length_le (by rw [beL_len]; exact Nat.le_refl _)
            rw [HK.out, e, HM.out, Hs.out, List.flatMap_append, List.append_assoc]
            simp)
          have hneg : ((q : Int) - 1 - q) = -1 := by omega
          rw [hneg]
          clear hneg
          go_wp2
          go_roundw
          case measure => simp [intOf]; omega
          case rel => exact ⟨j + 1, K, by go_num, hlt, Hfin.out, by rw [hKl, hMl, Nat.add_mul]; omega, by rw [← hKl] at *; exact HownK.out, Hbq.out⟩
    · have hjj : j = ns.length := by omega
      subst hjj
      have Hfin := Lib.hid (show M = L ++ ns.flatMap (beL k) by rw [HM.out, List.take_length])
      obtain ⟨A6, c6, hv6⟩ := hown.shape
      subst hv6
      clear hown hb
      go_wp2
      go_ret
      exact ⟨_, rfl, by rw [← Hfin.out]; exact Hown.out, Hb.out⟩

end Go.Proofs.Ytpnbibokddhheaa
