/-
  A piece that was handed in.
-/
import Derived.Test.YtbffhdlfplgccaaHdDec
namespace Go.Proofs.Ytbffhdlfplgccaa
open Go.ChangeShapes Go.WideShapes Go.RowKit Go.Deep Go.Joins

section
variable {H : Type} {enc : TypeId × Value → H} {w : World} {base : Nat} {spare : Nat → Bool} {held : Bool}
theorem cofDd : Try.prog.cellsOf 66 = 5 := by kernel_rfl
theorem cofHeads14 : Try.prog.cellsOf 35 = 1 := by kernel_rfl
set_option maxRecDepth 100000 in
theorem dec_dd {n : Nat} {cs : List Value} {x : DataW H × List MemPlace} (h : DataW.trod enc Try.prog w base spare held n 66 cs = some x) : ∃ (b1 b2 b3 : Bool) (z : Int) (A : Option Addr) (m c : Nat), cs = [.bool b1, .bool b2, .bool b3, .int .i64 z, .slice A m c] := by
  haveI : Inhabited Hd := ⟨⟨0, 0, 0, 0, 0, 0, 0⟩⟩
  obtain ⟨hl, m, hf⟩ := dec_fields Try.underlying66 h
  rw [cofDd] at hl
  match cs, hl with
  | [c0, c1, c2, c3, c4], _ =>
    obtain ⟨_, t0⟩ := fld hf 0 4 0 1 [c0] (by kernel_rfl) cofBool rfl
    obtain ⟨_, t1⟩ := fld hf 1 4 1 1 [c1] (by kernel_rfl) cofBool rfl
    obtain ⟨_, t2⟩ := fld hf 2 4 2 1 [c2] (by kernel_rfl) cofBool rfl
    obtain ⟨_, t3⟩ := fld hf 3 3 3 1 [c3] (by kernel_rfl) cofInt rfl
    obtain ⟨_, t4⟩ := fld hf 4 35 4 1 [c4] (by kernel_rfl) cofHeads14 rfl
    obtain ⟨b1, rfl⟩ := tbool t0
    obtain ⟨b2, rfl⟩ := tbool t1
    obtain ⟨b3, rfl⟩ := tbool t2
    obtain ⟨z, rfl⟩ := tint t3
    obtain ⟨A, cap, R, he, -, -, -⟩ := open_rows (C := 7) Hd.cells Hd.wf (by decide) Try.underlying35 cofHead (fun _ _ _ h => dec_headw h) t4
    simp at he
    exact ⟨b1, b2, b3, z, A, R.length, cap, by rw [he]⟩
set_option maxRecDepth 100000 in
theorem open_dd {r : Reach} {b0 : Nat} {v : Value} {d : DataW H} {p : List MemPlace} (hv : Value.okWide Try.prog w r b0 66 v) (h : DataW.Trod enc Try.prog w base spare held 66 v d p) :
    ∃ (b1 b2 b3 : Bool) (z : Int) (A : Option Addr) (m c : Nat), v = .agg #[.bool b1, .bool b2, .bool b3, .int .i64 z, .slice A m c] := by
  obtain ⟨cs, rfl, _⟩ := okWide_struct Try.underlying66 hv
  obtain ⟨n, hn⟩ := h
  obtain ⟨b1, b2, b3, z, A, m, c, he⟩ := dec_dd hn
  refine ⟨b1, b2, b3, z, A, m, c, ?_⟩
  congr 1
  exact Array.toList_inj.1 he
set_option maxRecDepth 100000 in
theorem open_three {r : Reach} {b0 : Nat} {v : Value} {d : DataW H} {p : List MemPlace} (hv : Value.okWide Try.prog w r b0 53 v) (h : DataW.Trod enc Try.prog w base spare held 53 v d p) :
    ∃ x y z : Int, v = .agg #[.int .i64 x, .int .i64 y, .int .i64 z] := by
  obtain ⟨fuel, hf⟩ := h
  obtain ⟨xs, m, _, _, hlen, _, hi⟩ := DataW.trod_array Try.underlying53 hf
  have hc2 : Try.prog.cellsOf 53 = 3 := by kernel_rfl
  have hxs : ∀ i, i < 3 → ∃ y, DataW.trod enc Try.prog w base spare held m 3 ((v.cells.toList.drop i).take 1) = some y := by
    intro i h2
    have := hi i h2
    rw [cofInt, Nat.mul_one] at this
    have hl : i < xs.length := by omega
    exact ⟨xs[i], by rw [this, List.getElem?_eq_getElem hl]⟩
  rw [hc2] at hlen
  obtain ⟨c0, c1, c2, hcs⟩ : ∃ c0 c1 c2, v.cells.toList = [c0, c1, c2] := by
    match hc : v.cells.toList, hlen with
    | [c0, c1, c2], _ => exact ⟨c0, c1, c2, rfl⟩
  obtain ⟨y0, t0⟩ := hxs 0 (by omega)
  obtain ⟨y1, t1⟩ := hxs 1 (by omega)
  obtain ⟨y2, t2⟩ := hxs 2 (by omega)
  rw [hcs] at t0 t1 t2
  simp at t0 t1 t2
  obtain ⟨z0, rfl⟩ := tint t0
  obtain ⟨z1, rfl⟩ := tint t1
  obtain ⟨z2, rfl⟩ := tint t2
  refine ⟨z0, z1, z2, ?_⟩
  have hcells : v.cells = #[.int .i64 z0, .int .i64 z1, .int .i64 z2] := by
    apply Array.toList_inj.1; rw [hcs]
  have hsz := hv
  simp only [Value.okWide, Try.underlying53] at hsz
  obtain ⟨cs, rfl, _⟩ := hsz
  exact congrArg Value.agg hcells
end

end Go.Proofs.Ytbffhdlfplgccaa
