/-
  A row of structs that a call made itself, behind the library's sort.
-/
import Derived.Shelf.SlSortCmp.NoneTotal
import Derived.Test.YtpnbibokddhheaaOwnR
namespace Go.Proofs.Ytpnbibokddhheaa
open Go.RowKit Go.Sort Go.Proofs

section
variable {α : Type} [Inhabited α] {e : TypeId} {C : Nat} {cells : α → List Value} {w : World} {B : Nat} {L : List α}
theorem flatK_list (hC : ∀ x, (cells x).length = C) (M : List α) : (flatK cells C M.toArray).toList = M.flatMap cells := by
  apply List.ext_getElem?
  intro t
  by_cases ht : t < M.length * C
  · have h0 : 0 < C := by
      rcases Nat.eq_zero_or_pos C with h | h
      · subst h; simp at ht
      · exact h
    have hk : t / C < M.length := Nat.div_lt_of_lt_mul (by rw [Nat.mul_comm]; exact ht)
    have hi : t % C < C := Nat.mod_lt _ h0
    have e1 := flatR cells C hC M (t / C) (t % C) hk hi
    rw [show t / C * C + t % C = t by rw [Nat.mul_comm]; exact Nat.div_add_mod t C] at e1
    rw [e1, Array.getElem?_toList]
    have hs : t < (flatK cells C M.toArray).size := by rw [size_flatK]; simpa using ht
    have e2 := get_flatK cells C M.toArray t (by simpa using ht)
    rw [getElem!_pos _ t hs] at e2
    rw [Array.getElem?_eq_getElem hs, e2]
    have e3 : M.toArray[t / C]! = M[t / C] := by simp [hk]
    have e4 : t % C < (cells M[t / C]).length := by rw [hC]; exact hi
    rw [e3, List.getElem?_eq_getElem e4, getElem!_pos (cells M[t / C]) (t % C) e4]
  · rw [List.getElem?_eq_none (by simpa using Nat.le_of_not_lt ht), List.getElem?_eq_none (by rw [flatLenR cells C hC]; omega)]
theorem ownR_holds (hC : ∀ x, (cells x).length = C) {g n cap : Nat} (h : OwnR e C cells w B (.slice (some ⟨g, 0, none⟩) n cap) L) : HoldsK cells C w g 0 L.toArray ∧ g < w.heap.size := by
  rcases h.2 with ⟨hv, -⟩ | ⟨g', cap', cur, hv, hb, hg, hnc, hcm, hcs, ht⟩
  · cases hv
  · simp only [Value.slice.injEq, Option.some.injEq, Addr.mk.injEq, and_true] at hv
    obtain ⟨rfl, rfl, rfl⟩ := hv
    refine ⟨fun j hj => ⟨?_, by simp [World.frozen?, hg]⟩, (Array.getElem?_eq_some_iff.1 hg).1⟩
    have hj' : j < L.length * C := by rw [size_flatK] at hj; simpa using hj
    have h1 : (cur.toList.take (L.length * C))[j]? = (L.flatMap cells)[j]? := by rw [ht]
    rw [List.getElem?_take_of_lt hj', ← flatK_list hC, Array.getElem?_toList, Array.getElem?_toList, Array.getElem?_eq_getElem hj] at h1
    simp only [World.cell?, hg, Nat.zero_add, Option.isSome_none, Bool.false_eq_true, if_false]
    rw [h1, getElem!_pos (flatK cells C L.toArray) j hj]
    rfl
theorem take_put (F cur : Array Value) (h : F.size ≤ cur.size) : (putCells id 0 F cur).toList.take F.size = F.toList := by
  apply List.ext_getElem?
  intro j
  by_cases hj : j < F.size
  · rw [List.getElem?_take_of_lt hj, Array.getElem?_toList, Array.getElem?_toList]
    simp [putCells, hj, show j < cur.size by omega]
  · rw [List.getElem?_take_eq_none (by omega), List.getElem?_eq_none (by simp; omega)]
theorem ownR_sorted (hC : ∀ x, (cells x).length = C) {g n cap m : Nat} {os : Array Obj} {M : List α} (h : OwnR e C cells w B (.slice (some ⟨g, 0, none⟩) n cap) L) (hl : M.length = L.length) :
    OwnR e C cells (sortWorldK cells C w g 0 m M.toArray os) B (.slice (some ⟨g, 0, none⟩) n cap) M ∧ w.grownBy (sortWorldK cells C w g 0 m M.toArray os) (some g) := by
  rcases h.2 with ⟨hv, -⟩ | ⟨g', cap', cur, hv, hb, hg, hnc, hcm, hcs, ht⟩
  · cases hv
  · simp only [Value.slice.injEq, Option.some.injEq, Addr.mk.injEq, and_true] at hv
    obtain ⟨rfl, rfl, rfl⟩ := hv
    have hlt : g < w.heap.size := (Array.getElem?_eq_some_iff.1 hg).1
    have hheap : (sortWorldK cells C w g 0 m M.toArray os).heap[g]? = some (.cells (putCells id 0 (flatK cells C M.toArray) cur) e (0, 0)) := by
      unfold sortWorldK putRowK
      rw [heap_grow_old _ _ (by simpa using hlt)]
      simp [putRow, mapBlock, Sort.ahead, Array.getElem?_modify, hg, onCells]
    have hfs : (flatK cells C M.toArray).size = L.length * C := by rw [size_flatK]; simp [hl]
    refine ⟨⟨?_, .inr ⟨g, cap, _, by rw [hl], hb, hheap, by omega, hcm, by simp [putCells, hcs], ?_⟩⟩, rfl, rfl, rfl, ?_, fun k hk hne => ?_⟩
    · rw [flatLenR cells C hC]
    · rw [← flatK_list hC, hl, ← hfs]
      exact take_put _ _ (by rw [hfs, hcs]; exact Nat.mul_le_mul_right C hnc)
    · unfold sortWorldK putRowK
      simp
    · unfold sortWorldK putRowK
      rw [heap_grow_old _ _ (by simpa using hk)]
      have : g ≠ k := fun e => hne (by rw [e])
      simp [putRow, mapBlock, Sort.ahead, Array.getElem?_modify, this]
end

end Go.Proofs.Ytpnbibokddhheaa
