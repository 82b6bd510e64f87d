/-
  A head that was handed in.
-/
import Derived.Test.YtmjjmkdjjfmhhaaHdDec
namespace Go.Proofs.Ytmjjmkdjjfmhhaa
open Go.ChangeShapes Go.WideShapes Go.RowKit Go.Deep Go.Joins

section
variable {H : Type} {enc : TypeId × Value → H} {w : World} {base : Nat} {spare : Nat → Bool} {held : Bool}
set_option maxRecDepth 100000 in
theorem open_head7 {r : Reach} {b0 : Nat} {v : Value} {d : DataW H} {p : List MemPlace} (hv : Value.okWide Try.prog w r b0 23 v) (h : DataW.Trod enc Try.prog w base spare held 23 v d p) :
    ∃ x : Hd, v = .agg #[.int .i64 x.age, .int .i64 x.kind, .int .i64 x.id, .int .i64 x.adv, .int .i64 x.seq, .int .i64 x.sum, .int .i64 x.long] := by
  obtain ⟨cs, rfl, _⟩ := okWide_struct Try.underlying23 hv
  obtain ⟨n, hn⟩ := h
  obtain ⟨x, he, _⟩ := dec_head hn
  refine ⟨x, ?_⟩
  congr 1
  exact Array.toList_inj.1 he
end

end Go.Proofs.Ytmjjmkdjjfmhhaa
