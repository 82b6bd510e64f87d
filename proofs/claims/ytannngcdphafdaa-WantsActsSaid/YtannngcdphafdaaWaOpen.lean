/-
  What the frames of layer 15 ask: heads and acts that were handed in.
-/
import Derived.Test.YtannngcdphafdaaFrame
import Derived.Test.YtannngcdphafdaaWaAct
namespace Go.Proofs.Ytannngcdphafdaa
open Go.ChangeShapes Go.WideShapes Go.RowKit Go.Deep Go.Joins

section
variable {H : Type} {enc : TypeId × Value → H} {w : World} {base : Nat} {spare : Nat → Bool} {held : Bool}
theorem cofActW : Try.prog.cellsOf 80 = 2 := by kernel_rfl
theorem cofHeads : Try.prog.cellsOf 34 = 1 := by kernel_rfl
set_option maxRecDepth 100000 in
theorem dec_actw {n : Nat} {cs : List Value} {x : DataW H × List MemPlace} (h : DataW.trod enc Try.prog w base spare held n 80 cs = some x) : ∃ d : ActW, cs = d.cells ∧ (RowsAt 7 Hd.cells w w.heap.size d.ka d.heads ∧ d.heads.length ≤ maxLen) := by
  obtain ⟨hl, m, hf⟩ := dec_fields Try.underlying80 h
  rw [cofActW] at hl
  match cs, hl with
  | [c0, c1], _ =>
    obtain ⟨_, t0⟩ := fld hf 0 3 0 1 [c0] (by kernel_rfl) cofInt rfl
    obtain ⟨_, t1⟩ := fld hf 1 34 1 1 [c1] (by kernel_rfl) cofHeads rfl
    obtain ⟨z0, rfl⟩ := tint t0
    obtain ⟨ka, kcap, kl, hk, hkr, hkm, _⟩ := open_rows (C := 7) Hd.cells (fun _ => True) (by decide) Try.underlying34 cofHead (fun _ _ _ h => dec_head h) t1
    simp at hk
    subst hk
    exact ⟨⟨z0, ka, kcap, kl⟩, rfl, hkr, hkm⟩
theorem open_acts15 {a : Option Addr} {len cap : Nat} {d : DataW H} {p : List MemPlace} (h : DataW.Trod enc Try.prog w base spare held 74 (.slice a len cap) d p) :
    ∃ l : List ActW, len = l.length ∧ ActsW w w.heap.size a l ∧ l.length ≤ maxLen := by
  obtain ⟨n, hn⟩ := h
  obtain ⟨A, c, R, he, hr, hm, hok⟩ := open_rows (C := 2) ActW.cells (fun x => RowsAt 7 Hd.cells w w.heap.size x.ka x.heads ∧ x.heads.length ≤ maxLen) (by decide) Try.underlying74 cofActW (fun _ _ _ h => dec_actw h) hn
  simp [Value.cells] at he
  obtain ⟨rfl, rfl, rfl⟩ := he
  exact ⟨R, rfl, ⟨hr, hok⟩, hm⟩
end

end Go.Proofs.Ytannngcdphafdaa
