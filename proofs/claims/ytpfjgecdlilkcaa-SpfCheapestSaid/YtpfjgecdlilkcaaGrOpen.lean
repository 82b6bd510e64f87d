/-
  A vertex, and a row of edges, that were handed in.
-/
import Derived.Test.YtpfjgecdlilkcaaHdDec
import Derived.Test.YtpfjgecdlilkcaaEdDec
namespace Go.Proofs.Ytpfjgecdlilkcaa
open Go.ChangeShapes Go.WideShapes Go.RowKit Go.Deep Go.Joins

section
variable {H : Type} {enc : TypeId × Value → H} {w : World} {base : Nat} {spare : Nat → Bool} {held : Bool}
theorem cofVert : Try.prog.cellsOf 40 = 2 := by kernel_rfl
theorem cofEdge : Try.prog.cellsOf 42 = 5 := by kernel_rfl
set_option maxRecDepth 100000 in
theorem dec_vert {n : Nat} {cs : List Value} {x : DataW H × List MemPlace} (h : DataW.trod enc Try.prog w base spare held n 40 cs = some x) : ∃ a b : Int, cs = [.int .i64 a, .int .i64 b] := by
  obtain ⟨hl, m, hf⟩ := dec_fields Try.underlying40 h
  rw [cofVert] at hl
  match cs, hl with
  | [c0, c1], _ =>
    obtain ⟨_, t0⟩ := fld hf 0 3 0 1 [c0] (by kernel_rfl) cofInt rfl
    obtain ⟨_, t1⟩ := fld hf 1 3 1 1 [c1] (by kernel_rfl) cofInt rfl
    obtain ⟨z0, rfl⟩ := tint t0
    obtain ⟨z1, rfl⟩ := tint t1
    exact ⟨z0, z1, rfl⟩
set_option maxRecDepth 100000 in
theorem dec_edge {n : Nat} {cs : List Value} {x : DataW H × List MemPlace} (h : DataW.trod enc Try.prog w base spare held n 42 cs = some x) : ∃ d : Ed, cs = d.cells ∧ True := by
  obtain ⟨hl, m, hf⟩ := dec_fields Try.underlying42 h
  rw [cofEdge] at hl
  match cs, hl with
  | [c0, c1, c2, c3, c4], _ =>
    obtain ⟨_, t0⟩ := fld hf 0 40 0 2 [c0, c1] (by kernel_rfl) cofVert rfl
    obtain ⟨_, t1⟩ := fld hf 1 40 2 2 [c2, c3] (by kernel_rfl) cofVert rfl
    obtain ⟨_, t2⟩ := fld hf 2 3 4 1 [c4] (by kernel_rfl) cofInt rfl
    obtain ⟨a, b, e0⟩ := dec_vert t0
    obtain ⟨c, d, e1⟩ := dec_vert t1
    obtain ⟨z2, rfl⟩ := tint t2
    simp only [List.cons.injEq, and_true] at e0 e1
    obtain ⟨rfl, rfl⟩ := e0
    obtain ⟨rfl, rfl⟩ := e1
    exact ⟨⟨a, b, c, d, z2⟩, rfl, trivial⟩
set_option maxRecDepth 100000 in
theorem open_vert {r : Reach} {b0 : Nat} {v : Value} {d : DataW H} {p : List MemPlace} (hv : Value.okWide Try.prog w r b0 40 v) (h : DataW.Trod enc Try.prog w base spare held 40 v d p) :
    ∃ a b : Int, v = .agg #[.int .i64 a, .int .i64 b] := by
  obtain ⟨cs, rfl, _⟩ := okWide_struct Try.underlying40 hv
  obtain ⟨n, hn⟩ := h
  obtain ⟨a, b, he⟩ := dec_vert hn
  refine ⟨a, b, ?_⟩
  congr 1
  exact Array.toList_inj.1 he
set_option maxRecDepth 100000 in
theorem open_edge {r : Reach} {b0 : Nat} {v : Value} {d : DataW H} {p : List MemPlace} (hv : Value.okWide Try.prog w r b0 42 v) (h : DataW.Trod enc Try.prog w base spare held 42 v d p) :
    ∃ a b c d e : Int, v = .agg #[.int .i64 a, .int .i64 b, .int .i64 c, .int .i64 d, .int .i64 e] := by
  obtain ⟨cs, rfl, _⟩ := okWide_struct Try.underlying42 hv
  obtain ⟨n, hn⟩ := h
  obtain ⟨x, he, -⟩ := dec_edge hn
  refine ⟨x.fk, x.fi, x.tk, x.ti, x.cost, ?_⟩
  congr 1
  exact Array.toList_inj.1 he
theorem open_edges {a : Option Addr} {len cap : Nat} {d : DataW H} {p : List MemPlace} (h : DataW.Trod enc Try.prog w base spare held 32 (.slice a len cap) d p) :
    ∃ l : List Ed, len = l.length ∧ RowsAt 5 Ed.cells w w.heap.size a l ∧ l.length ≤ maxLen := by
  obtain ⟨n, hn⟩ := h
  obtain ⟨A, c, R, he, hr, hm, -⟩ := open_rows (C := 5) Ed.cells (fun _ => True) (by decide) Try.underlying32 cofEdge (fun _ _ _ h => dec_edge h) hn
  simp [Value.cells] at he
  obtain ⟨rfl, rfl, rfl⟩ := he
  exact ⟨R, rfl, hr, hm⟩
end

end Go.Proofs.Ytpfjgecdlilkcaa
