/-
  Keys that were handed in.
-/
import Derived.Test.YtmjjmkdjjfmhhaaHdDec
import Derived.Test.YtmjjmkdjjfmhhaaKyThree
namespace Go.Proofs.Ytmjjmkdjjfmhhaa
open Go.ChangeShapes Go.WideShapes Go.RowKit Go.Deep Go.Joins

section
variable {H : Type} {enc : TypeId × Value → H} {w : World} {base : Nat} {spare : Nat → Bool} {held : Bool}
theorem cofKey : Try.prog.cellsOf 39 = 3 := by kernel_rfl
theorem cofKeys : Try.prog.cellsOf 61 = 1 := by kernel_rfl
set_option maxRecDepth 100000 in
theorem dec_key {n : Nat} {cs : List Value} {x : DataW H × List MemPlace} (h : DataW.trod enc Try.prog w base spare held n 39 cs = some x) : ∃ d : K3, cs = d.cells ∧ True := by
  obtain ⟨hl, m, hf⟩ := dec_fields Try.underlying39 h
  rw [cofKey] at hl
  match cs, hl with
  | [c0, c1, c2], _ =>
    obtain ⟨_, t0⟩ := fld hf 0 3 0 1 [c0] (by kernel_rfl) cofInt rfl
    obtain ⟨_, t1⟩ := fld hf 1 3 1 1 [c1] (by kernel_rfl) cofInt rfl
    obtain ⟨_, t2⟩ := fld hf 2 3 2 1 [c2] (by kernel_rfl) cofInt rfl
    obtain ⟨z0, rfl⟩ := tint t0
    obtain ⟨z1, rfl⟩ := tint t1
    obtain ⟨z2, rfl⟩ := tint t2
    exact ⟨⟨z0, z1, z2⟩, rfl, trivial⟩
set_option maxRecDepth 100000 in
theorem open_key3 {r : Reach} {b0 : Nat} {v : Value} {d : DataW H} {p : List MemPlace} (hv : Value.okWide Try.prog w r b0 39 v) (h : DataW.Trod enc Try.prog w base spare held 39 v d p) :
    ∃ a b c : Int, v = .agg #[.int .i64 a, .int .i64 b, .int .i64 c] := by
  obtain ⟨cs, rfl, _⟩ := okWide_struct Try.underlying39 hv
  obtain ⟨n, hn⟩ := h
  obtain ⟨⟨a, b, c⟩, he, _⟩ := dec_key hn
  refine ⟨a, b, c, ?_⟩
  congr 1
  exact Array.toList_inj.1 he
theorem open_keys {a : Option Addr} {len cap : Nat} {d : DataW H} {p : List MemPlace} (h : DataW.Trod enc Try.prog w base spare held 61 (.slice a len cap) d p) :
    ∃ l : List K3, len = l.length ∧ RowsAt 3 K3.cells w w.heap.size a l ∧ l.length ≤ maxLen := by
  obtain ⟨n, hn⟩ := h
  obtain ⟨A, c, R, he, hr, hm, hok⟩ := open_rows (C := 3) K3.cells (fun _ => True) (by decide) Try.underlying61 cofKey (fun _ _ _ h => dec_key h) hn
  simp [Value.cells] at he
  obtain ⟨rfl, rfl, rfl⟩ := he
  exact ⟨R, rfl, hr, hm⟩
end

end Go.Proofs.Ytmjjmkdjjfmhhaa
