/-
  An entry of a map by struct keys that is asked for, and stored into behind that (m[k] = append(m[k], ..)).
-/
import Derived.Test.YtpfjgecdlilkcaaStMap
import Derived.WideKeyEntry
namespace Go.Proofs.Ytpfjgecdlilkcaa
open Go.RowKit Go.MapKept Go.WideElems

section
variable {κ : Type} [DecidableEq κ] {P : Program} {kt et mt : TypeId} {enc : κ → Value} {w w' : World} {b : Nat} {L : List (κ × Value)}
/-- block b is a map of just these; the one of k bears the stamp st -/
def EntryAt (enc : κ → Value) (w : World) (b : Nat) (L : List (κ × Value)) (k : κ) (st : Nat) : Prop :=
  ∃ es clock j e, w.heap[b]? = some (.map es clock) ∧ entE es.toList = entL enc L ∧ (∀ x ∈ es.toList, x.born < clock) ∧ (es.toList.map (·.born)).Nodup ∧ (L.map (·.1)).Nodup ∧
    es[j]? = some e ∧ e.born = st ∧ e.key = enc k ∧ ∀ v, setL k v L = L.set j (k, v)
theorem EntryAt.map {k : κ} {st : Nat} (h : EntryAt enc w b L k st) : MapAt enc w b L := by
  obtain ⟨es, clock, j, e, h1, h2, h3, h4, h5, -⟩ := h
  exact ⟨es, clock, h1, h2, h3, h4, h5⟩
theorem EntryAt.same {k : κ} {st : Nat} (h : EntryAt enc w b L k st) (he : w'.heap[b]? = w.heap[b]?) : EntryAt enc w' b L k st := by
  obtain ⟨es, clock, j, e, h1, h2⟩ := h
  exact ⟨es, clock, j, e, he.trans h1, h2⟩
theorem EntryAt.grown {k : κ} {st : Nat} {row : Option Nat} (h : EntryAt enc w b L k st) (hg : w.grownBy w' row) (hne : some b ≠ row) : EntryAt enc w' b L k st := h.same (hg.block b h.map.lt hne)
theorem EntryAt.below {k : κ} {st : Nat} {B : Nat} (h : EntryAt enc w b L k st) (hb : Below B w w') (hB : b < B) : EntryAt enc w' b L k st := h.same (hb.block b hB)
theorem setL_new (k : κ) (v z : Value) : ∀ {L : List (κ × Value)}, (∀ e ∈ L, e.1 ≠ k) → setL k v (L ++ [(k, z)]) = L ++ [(k, v)]
  | [], _ => by simp [setL]
  | e :: L, h => by
    rw [List.cons_append, setL, if_neg (h e List.mem_cons_self), setL_new k v z (fun x hx => h x (List.mem_cons_of_mem _ hx))]
    rfl
theorem MapAt.entry_run (h : MapAt enc w b L) (K : KeyOk P kt enc) (ht : P.underlying mt = some (.map kt et)) {z : Value} (hz : ∀ w, (zeroValue et).run P w = .ok z w) (k : κ) :
    ∃ (w' : World) (st : Nat), (Instr.mapEntry mt (.map (some b)) (enc k)).run P w = .ok (.tuple #[(getL k L).getD z, goInt st]) w' ∧ EntryAt enc w' b (setL k ((getL k L).getD z) L) k st ∧ w.grownBy w' (some b) ∧ w'.heap.size = w.heap.size := by
  obtain ⟨es, clock, hb, hm, h1, h2, h3⟩ := h
  have hf := K.find k es.toList L w hm
  have hlen : es.toList.length = L.length := by simpa [entE, entL] using congrArg List.length hm
  cases hl : look k L 0 with
  | none =>
    rw [hl] at hf
    obtain ⟨h6, h4, h5⟩ := look_none hl
    rw [h6]
    refine ⟨{ w with heap := w.heap.setIfInBounds b (.map (es.push { key := enc k, val := z, born := clock }) (clock + 1)) }, clock, ?_, ⟨_, _, es.size, { key := enc k, val := z, born := clock }, (heap_set hb).1, ?_, ?_, ?_, (setL_keys h3).1, by simp, rfl, rfl, ?_⟩, ⟨rfl, rfl, rfl, by simp, fun i hi hne => (heap_set hb).2 i fun e => hne (by rw [e])⟩, by simp⟩
    · simp [Instr.mapEntry, run_underlying ht, MapKept.run_getObj_map hb, K.check, hf, hz, MapKept.run_setObj_map _ hb, Result.andThen]
    · simp only [Option.getD]
      rw [h5 z]
      simp only [entE, entL] at hm
      simp [entE, entL, hm]
    · intro x hx
      simp only [Array.toList_push, List.mem_append, List.mem_singleton] at hx
      rcases hx with hx | rfl
      · have := h1 x hx; omega
      · exact Nat.lt_succ_self _
    · simp only [Array.toList_push, List.map_append, List.map_cons, List.map_nil]
      refine List.nodup_append.2 ⟨h2, by simp, ?_⟩
      intro a ha c hc
      simp only [List.mem_singleton] at hc
      subst hc
      obtain ⟨x, hx, rfl⟩ := List.mem_map.1 ha
      exact Nat.ne_of_lt (h1 x hx)
    · intro v
      simp only [Option.getD]
      have hsz : es.size = L.length := by rw [← hlen]; rfl
      rw [h5 z, setL_new k v z h4, hsz, List.set_append_right _ _ (Nat.le_refl _)]
      simp
  | some jv =>
    obtain ⟨j, v0⟩ := jv
    rw [hl] at hf
    obtain ⟨n, hjn, h4, h6, h5⟩ := look_some hl
    obtain rfl : j = n := by omega
    have hjL : j < L.length := (List.getElem?_eq_some_iff.1 h4).1
    have hjs : j < es.size := by have : es.toList.length = es.size := rfl; omega
    have hkv : es[j].key = enc k ∧ es[j].val = v0 := by
      have := congrArg (fun l => l[j]?) hm
      simp only [entE, entL, List.getElem?_map, h4, Option.map_some, Array.getElem?_toList, Array.getElem?_eq_getElem hjs, Option.some.injEq, Prod.mk.injEq] at this
      exact this
    have hstay : (Instr.keyThatStays (enc k) (enc k)).run P w = .ok (enc k) w := by simp [Instr.keyThatStays, K.same]
    have hsame : es.modify j (fun e => { e with key := enc k }) = es := by
      apply Array.ext_getElem?
      intro i
      rw [Array.getElem?_modify]
      by_cases hij : j = i
      · subst hij
        rw [if_pos rfl, Array.getElem?_eq_getElem hjs]
        simp only [Option.map_some, Option.some.injEq]
        have h7 := hkv.1
        cases hx : es[j] with
        | mk key val born =>
          rw [hx] at h7
          simp only at h7
          rw [h7]
      · rw [if_neg hij]
    have hset : setL k v0 L = L := by
      rw [h5 v0]
      exact set_self L j _ h4
    have hsw : ({ w with heap := w.heap.setIfInBounds b (.map es clock) } : World).heap[b]? = some (.map es clock) := (heap_set hb).1
    rw [h6]
    simp only [Option.getD]
    rw [hset]
    refine ⟨{ w with heap := w.heap.setIfInBounds b (.map es clock) }, es[j].born, ?_, ⟨es, clock, j, es[j], hsw, hm, h1, h2, h3, Array.getElem?_eq_getElem hjs, rfl, hkv.1, h5⟩, ⟨rfl, rfl, rfl, by simp, fun i hi hne => (heap_set hb).2 i fun e => hne (by rw [e])⟩, by simp⟩
    simp [Instr.mapEntry, run_underlying ht, MapKept.run_getObj_map hb, K.check, hf, Array.getElem?_eq_getElem hjs, hkv.1, hstay, hsame, MapKept.run_setObj_map _ hb, Result.andThen]
theorem EntryAt.store_run {k : κ} {st : Nat} (h : EntryAt enc w b L k st) (v : Value) :
    ∃ w', (Instr.entryStore mt (.map (some b)) (goInt st) v).run P w = .ok () w' ∧ MapAt enc w' b (setL k v L) ∧ w.grownBy w' (some b) ∧ w'.heap.size = w.heap.size := by
  obtain ⟨es, clock, j, e, hb, hm, h1, h2, h3, hj, hst, hkey, h5⟩ := h
  subst hst
  have hidx : es.findIdx? (fun x => ((x.born : Nat) : Int) == ((e.born : Nat) : Int)) = some j := by
    rw [findIdx_arr]
    exact findIdx_born h2 (by simpa using hj)
  have hjs : j < es.size := (Array.getElem?_eq_some_iff.1 hj).1
  have hej : es[j] = e := (Array.getElem?_eq_some_iff.1 hj).2
  refine ⟨{ w with heap := w.heap.setIfInBounds b (.map (es.modify j fun x => { x with val := v }) clock) }, ?_, ⟨_, _, (heap_set hb).1, ?_, ?_, ?_, (setL_keys h3).1⟩, ⟨rfl, rfl, rfl, by simp, fun i hi hne => (heap_set hb).2 i fun e => hne (by rw [e])⟩, by simp⟩
  · simp [Instr.entryStore, MapKept.run_getObj_map hb, asInt, asIntOf, goInt, hidx, MapKept.run_setObj_map _ hb, Result.andThen]
  · rw [h5 v]
    simp only [entL, List.map_set]
    simp only [entL] at hm
    rw [← hm]
    apply List.ext_getElem?
    intro i
    simp only [entE, List.getElem?_map, Array.getElem?_toList, Array.getElem?_modify, List.getElem?_set, List.length_map]
    by_cases hij : j = i
    · subst hij
      simp [hjs, hej, hkey]
    · simp [hij]
  · intro x hx
    obtain ⟨i, hi⟩ := List.getElem?_of_mem hx
    rw [Array.getElem?_toList, Array.getElem?_modify] at hi
    by_cases hij : j = i
    · subst hij
      simp only [if_true, Array.getElem?_eq_getElem hjs, Option.map_some, Option.some.injEq] at hi
      rw [← hi]
      exact h1 es[j] (by simp)
    · rw [if_neg hij] at hi
      exact h1 x (List.mem_of_getElem? (by rwa [Array.getElem?_toList]))
  · have : (es.modify j fun x => { x with val := v }).toList.map (·.born) = es.toList.map (·.born) := by
      apply List.ext_getElem?
      intro i
      simp only [List.getElem?_map, Array.getElem?_toList, Array.getElem?_modify]
      by_cases hij : j = i
      · subst hij
        simp only [if_true]
        cases es[j]? <;> rfl
      · simp [hij]
    rw [this]
    exact h2
end

end Go.Proofs.Ytpfjgecdlilkcaa
