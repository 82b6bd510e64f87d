/-
  What the frames of layer 16 ask: pairs of numbers that were handed in.
-/
import Derived.Test.YtfhikkmgclkcdaaRxOpen
import Derived.Test.YtfhikkmgclkcdaaLawRxmtDrops
namespace Go.Proofs.Ytfhikkmgclkcdaa
open Go.ChangeShapes Go.WideShapes Go.RowKit Go.Deep Go.Joins

section
variable {H : Type} {enc : TypeId × Value → H} {w : World} {base : Nat} {spare : Nat → Bool} {held : Bool}
theorem cofTwo : Try.prog.cellsOf 90 = 2 := by kernel_rfl
set_option maxRecDepth 100000 in
theorem dec_two {n : Nat} {cs : List Value} {x : DataW H × List MemPlace} (h : DataW.trod enc Try.prog w base spare held n 90 cs = some x) : ∃ d : Int × Int, cs = twoCells d ∧ True := by
  obtain ⟨xs, m, _, _, hlen, _, hi⟩ := DataW.trod_array Try.underlying90 h
  have hxs : ∀ i, i < 2 → ∃ y, DataW.trod enc Try.prog w base spare held m 3 ((cs.drop i).take 1) = some y := by
    intro i h2
    have := hi i h2
    rw [cofInt, Nat.mul_one] at this
    have hl : i < xs.length := by omega
    exact ⟨xs[i], by rw [this, List.getElem?_eq_getElem hl]⟩
  rw [cofTwo] at hlen
  match cs, hlen with
  | [c0, c1], _ =>
    obtain ⟨y0, t0⟩ := hxs 0 (by omega)
    obtain ⟨y1, t1⟩ := hxs 1 (by omega)
    simp at t0 t1
    obtain ⟨z0, rfl⟩ := tint t0
    obtain ⟨z1, rfl⟩ := tint t1
    exact ⟨(z0, z1), rfl, trivial⟩
theorem open_twos {a : Option Addr} {len cap : Nat} {d : DataW H} {p : List MemPlace} (h : DataW.Trod enc Try.prog w base spare held 92 (.slice a len cap) d p) :
    ∃ l : List (Int × Int), len = l.length ∧ RowsAt 2 twoCells w w.heap.size a l ∧ l.length ≤ maxLen := by
  obtain ⟨n, hn⟩ := h
  obtain ⟨A, c, R, he, hr, hm, hok⟩ := open_rows (C := 2) twoCells (fun _ => True) (by decide) Try.underlying92 cofTwo (fun _ _ _ h => dec_two h) hn
  simp [Value.cells] at he
  obtain ⟨rfl, rfl, rfl⟩ := he
  exact ⟨R, rfl, hr, hm⟩
end

end Go.Proofs.Ytfhikkmgclkcdaa
