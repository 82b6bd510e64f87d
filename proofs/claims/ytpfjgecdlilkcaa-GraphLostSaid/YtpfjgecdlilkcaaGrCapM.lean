/-
  Members that were handed in have room for what they have.
-/
import Derived.Test.YtpfjgecdlilkcaaGrCap
namespace Go.Proofs.Ytpfjgecdlilkcaa
open Go.ChangeShapes Go.WideShapes Go.RowKit Go.Deep Go.Joins

section
variable {H : Type} {enc : TypeId × Value → H} {w : World} {base : Nat} {spare : Nat → Bool} {held : Bool}
set_option maxRecDepth 100000 in
theorem dec_lsac {n : Nat} {cs : List Value} {x : DataW H × List MemPlace} (h : DataW.trod enc Try.prog w base spare held n 30 cs = some x) : ∃ d : Lsa, cs = d.cells ∧ (d.ok w w.heap.size ∧ d.members.length ≤ d.mcap) := by
  obtain ⟨d, rfl, hok⟩ := dec_lsa h
  refine ⟨d, rfl, hok, ?_⟩
  obtain ⟨hl, m, hf⟩ := dec_fields Try.underlying30 h
  obtain ⟨_, t2⟩ := fld hf 2 28 8 1 [.slice d.ma d.members.length d.mcap] (by kernel_rfl) cofInts rfl
  rcases open_slice Try.underlying28 t2 with ⟨hcs, -⟩ | ⟨a', len', cap', m, n', D, Pl, hcs, -, hlc, -⟩
  · simp at hcs
    simp [hcs]
  · simp at hcs
    omega
theorem open_lsasc {a : Option Addr} {len cap : Nat} {d : DataW H} {p : List MemPlace} (h : DataW.Trod enc Try.prog w base spare held 22 (.slice a len cap) d p) :
    ∃ l : List Lsa, len = l.length ∧ LsasAt w w.heap.size a l ∧ l.length ≤ maxLen ∧ ∀ x ∈ l, x.members.length ≤ x.mcap := by
  obtain ⟨n, hn⟩ := h
  obtain ⟨A, c, R, he, hr, hm, hok⟩ := open_rows (C := 9) Lsa.cells (fun x => Lsa.ok w w.heap.size x ∧ x.members.length ≤ x.mcap) (by decide) Try.underlying22 cofLsa (fun _ _ _ h => dec_lsac h) hn
  simp [Value.cells] at he
  obtain ⟨rfl, rfl, rfl⟩ := he
  exact ⟨R, rfl, ⟨hr, fun x hx => (hok x hx).1⟩, hm, fun x hx => (hok x hx).2⟩
end

end Go.Proofs.Ytpfjgecdlilkcaa
