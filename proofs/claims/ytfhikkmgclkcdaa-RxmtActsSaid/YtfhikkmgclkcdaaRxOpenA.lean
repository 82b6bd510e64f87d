/-
  What the frame of RxmtActs asks: acts that were handed in.
-/
import Derived.Test.YtfhikkmgclkcdaaRxOpen
import Derived.Test.YtfhikkmgclkcdaaRxActB
namespace Go.Proofs.Ytfhikkmgclkcdaa
open Go.ChangeShapes Go.WideShapes Go.RowKit Go.Deep Go.Joins

section
variable {H : Type} {enc : TypeId × Value → H} {w : World} {base : Nat} {spare : Nat → Bool} {held : Bool}
theorem cofAct : Try.prog.cellsOf 101 = 4 := by kernel_rfl
def ActV.ok (x : ActV) (w : World) (B : Nat) : Prop := RowsAt 3 K3.cells w B x.ka x.keys ∧ x.keys.length ≤ maxLen
set_option maxRecDepth 100000 in
theorem dec_act {n : Nat} {cs : List Value} {x : DataW H × List MemPlace} (h : DataW.trod enc Try.prog w base spare held n 101 cs = some x) : ∃ d : ActV, cs = d.cells ∧ d.ok w w.heap.size := by
  obtain ⟨hl, m, hf⟩ := dec_fields Try.underlying101 h
  rw [cofAct] at hl
  match cs, hl with
  | [c0, c1, c2, c3], _ =>
    obtain ⟨_, t0⟩ := fld hf 0 3 0 1 [c0] (by kernel_rfl) cofInt rfl
    obtain ⟨_, t1⟩ := fld hf 1 3 1 1 [c1] (by kernel_rfl) cofInt rfl
    obtain ⟨_, t2⟩ := fld hf 2 3 2 1 [c2] (by kernel_rfl) cofInt rfl
    obtain ⟨_, t3⟩ := fld hf 3 81 3 1 [c3] (by kernel_rfl) cofKeys rfl
    obtain ⟨z0, rfl⟩ := tint t0
    obtain ⟨z1, rfl⟩ := tint t1
    obtain ⟨z2, rfl⟩ := tint t2
    obtain ⟨ka, kcap, kl, hk, hkr, hkm, _⟩ := open_rows (C := 3) K3.cells (fun _ => True) (by decide) Try.underlying81 cofKey (fun _ _ _ h => dec_key h) t3
    simp at hk
    subst hk
    exact ⟨⟨z0, z1, z2, ka, kcap, kl⟩, rfl, hkr, hkm⟩
theorem open_acts {a : Option Addr} {len cap : Nat} {d : DataW H} {p : List MemPlace} (h : DataW.Trod enc Try.prog w base spare held 95 (.slice a len cap) d p) :
    ∃ l : List ActV, len = l.length ∧ ActsAt w w.heap.size a l ∧ l.length ≤ maxLen := by
  obtain ⟨n, hn⟩ := h
  obtain ⟨A, c, R, he, hr, hm, hok⟩ := open_rows (C := 4) ActV.cells (fun x => x.ok w w.heap.size) (by decide) Try.underlying95 cofAct (fun _ _ _ h => dec_act h) hn
  simp [Value.cells] at he
  obtain ⟨rfl, rfl, rfl⟩ := he
  exact ⟨R, rfl, ⟨hr, hok⟩, hm⟩
end

end Go.Proofs.Ytfhikkmgclkcdaa
