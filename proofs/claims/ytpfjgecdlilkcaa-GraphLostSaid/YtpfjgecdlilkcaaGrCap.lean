/-
  A row that was handed in has room for what it has.
-/
import Derived.Test.YtpfjgecdlilkcaaLsaOpen
namespace Go.Proofs.Ytpfjgecdlilkcaa
open Go.ChangeShapes Go.WideShapes Go.RowKit Go.Deep Go.Joins

section
variable {H : Type} {enc : TypeId × Value → H} {w : World} {base : Nat} {spare : Nat → Bool} {held : Bool}
theorem cap_lsas {a : Option Addr} {len cap : Nat} {d : DataW H} {p : List MemPlace} (h : DataW.Trod enc Try.prog w base spare held 22 (.slice a len cap) d p) : len ≤ cap := by
  obtain ⟨n, hn⟩ := h
  rcases open_slice Try.underlying22 hn with ⟨hcs, -⟩ | ⟨a', len', cap', m, n', D, Pl, hcs, -, hlc, -⟩
  · simp [Value.cells] at hcs
    omega
  · simp [Value.cells] at hcs
    omega
end

end Go.Proofs.Ytpfjgecdlilkcaa
