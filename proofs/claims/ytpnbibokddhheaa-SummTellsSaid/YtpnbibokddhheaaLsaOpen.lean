/-
  A description that was handed in.
-/
import Derived.Test.YtpnbibokddhheaaHdDec
namespace Go.Proofs.Ytpnbibokddhheaa
open Go.ChangeShapes Go.WideShapes Go.RowKit Go.Deep Go.Joins

section
variable {H : Type} {enc : TypeId × Value → H} {w : World} {base : Nat} {spare : Nat → Bool} {held : Bool}
set_option maxRecDepth 100000 in
theorem open_lsa9 {r : Reach} {b0 : Nat} {v : Value} {d : DataW H} {p : List MemPlace} (hv : Value.okWide Try.prog w r b0 38 v) (h : DataW.Trod enc Try.prog w base spare held 38 v d p) :
    ∃ x : Lsa, v = .agg x.cells.toArray ∧ x.ok w w.heap.size := by
  obtain ⟨cs, rfl, _⟩ := okWide_struct Try.underlying38 hv
  obtain ⟨n, hn⟩ := h
  obtain ⟨x, he, hx⟩ := dec_lsa hn
  refine ⟨x, ?_, hx⟩
  congr 1
  exact Array.toList_inj.1 he
end

end Go.Proofs.Ytpnbibokddhheaa

/-
  A row of truths that was handed in.
-/
namespace Go.Proofs.Ytpnbibokddhheaa
open Go.ChangeShapes Go.WideShapes Go.RowKit Go.Deep Go.Joins

def tcell (b : Bool) : List Value := [.bool b]
section
variable {H : Type} {enc : TypeId × Value → H} {w : World} {base : Nat} {spare : Nat → Bool} {held : Bool}
theorem dec_tcell {n : Nat} {cs : List Value} {x : DataW H × List MemPlace} (h : DataW.trod enc Try.prog w base spare held n 4 cs = some x) : ∃ d : Bool, cs = tcell d ∧ True := by
  obtain ⟨b, e, _⟩ := DataW.trod_bool Try.underlying4 h
  exact ⟨b, e, trivial⟩
set_option maxRecDepth 100000 in
theorem open_bools {a : Option Addr} {len cap : Nat} {d : DataW H} {p : List MemPlace} (h : DataW.Trod enc Try.prog w base spare held 67 (.slice a len cap) d p) :
    ∃ l : List Bool, len = l.length ∧ RowsAt 1 tcell w w.heap.size a l ∧ l.length ≤ maxLen := by
  obtain ⟨n, hn⟩ := h
  obtain ⟨A, c, R, he, hr, hm, -⟩ := open_rows (C := 1) tcell (fun _ => True) (by decide) Try.underlying67 cofBool (fun _ _ _ h => dec_tcell h) hn
  simp [Value.cells] at he
  obtain ⟨rfl, rfl, rfl⟩ := he
  exact ⟨R, rfl, hr, hm⟩
end

end Go.Proofs.Ytpnbibokddhheaa
