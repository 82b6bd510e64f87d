/-
  A row of heads that was handed in.
-/
import Derived.Test.YtmjjmkdjjfmhhaaHdDec
namespace Go.Proofs.Ytmjjmkdjjfmhhaa
open Go.ChangeShapes Go.WideShapes Go.RowKit Go.Deep Go.Joins

section
variable {H : Type} {enc : TypeId × Value → H} {w : World} {base : Nat} {spare : Nat → Bool} {held : Bool}
set_option maxRecDepth 100000 in
theorem open_heads {a : Option Addr} {len cap : Nat} {d : DataW H} {p : List MemPlace} (h : DataW.Trod enc Try.prog w base spare held 37 (.slice a len cap) d p) :
    ∃ l : List Hd, len = l.length ∧ RowsAt 7 Hd.cells w w.heap.size a l ∧ l.length ≤ maxLen := by
  haveI : Inhabited Hd := ⟨⟨0, 0, 0, 0, 0, 0, 0⟩⟩
  obtain ⟨n, hn⟩ := h
  obtain ⟨A, c, R, he, hr, hm, -⟩ := open_rows (C := 7) Hd.cells Hd.wf (by decide) Try.underlying37 cofHead (fun _ _ _ h => dec_headw h) hn
  simp [Value.cells] at he
  obtain ⟨rfl, rfl, rfl⟩ := he
  exact ⟨R, rfl, hr, hm⟩
end

end Go.Proofs.Ytmjjmkdjjfmhhaa
