/-
  FloodLan: how one of them stands on the network.
-/
import Derived.Test.YtfhikkmgclkcdaaFlMembers
import Derived.Test.YtfhikkmgclkcdaaOwnR
namespace Go.Proofs.Ytfhikkmgclkcdaa
open Go.RowKit

def icell (x : Int) : List Value := [.int .i64 x]
theorem flat_icell (l : List Int) : l.flatMap icell = intsOf l := by
  induction l with
  | nil => rfl
  | cons x l ih => simp only [List.flatMap_cons, ih]; rfl
theorem OwnI.rows {w : World} {B : Nat} {A : Option Addr} {n cap : Nat} {l : List Int} (h : OwnI w B (.slice A n cap) l) : n = l.length ∧ RowsAt 1 icell w w.heap.size A l := by
  have h' : OwnR 3 1 icell w B (.slice A n cap) l := by
    unfold OwnR
    rw [flat_icell]
    exact h
  exact OwnR.rows (C := 1) (cells := icell) (fun _ => rfl) h'
theorem setCell_same {w : World} {g : Nat} {t : TypeId} {cs : Array Value} (h : Blk w g t cs) {i : Nat} {u : Value} (hu : cs[i]? = some u) : w.setCell ⟨g, i, none⟩ u = w := by
  have hcs : cs.setIfInBounds i u = cs := by
    obtain ⟨hi, he⟩ := Array.getElem?_eq_some_iff.1 hu
    apply Array.ext_getElem?
    intro j
    by_cases hj : i = j
    · subst hj
      simp [hi, he]
    · simp [hj]
  obtain ⟨heap, tape, drawn, os, output⟩ := w
  unfold Blk at h
  simp only at h
  simp only [World.setCell, World.mk.injEq, and_true]
  apply Array.ext_getElem?
  intro j
  rw [Array.getElem?_modify]
  by_cases hj : g = j
  · subst hj
    simp [h, hcs]
  · simp [hj]

end Go.Proofs.Ytfhikkmgclkcdaa
