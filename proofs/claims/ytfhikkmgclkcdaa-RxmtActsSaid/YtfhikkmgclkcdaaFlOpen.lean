/-
  What the frames of layer 18 ask.
-/
import Derived.Test.YtfhikkmgclkcdaaFlTypes
namespace Go.Proofs.Ytfhikkmgclkcdaa
open Go.ChangeShapes Go.WideShapes Go.RowKit Go.Deep Go.Joins

theorem own : ownKnob Try.prog.godebug = none := by kernel_rfl
theorem laidOut : laidOutB Try.prog = true := by kernel_rfl
theorem u8_nat {b : Int} (h : (Lit.int .u8 b).wf = true) : ∃ a : Nat, b = (a : Int) ∧ a ≤ 255 := by
  have hmin : IntKind.u8.min = 0 := rfl
  have hmax : IntKind.u8.max = 255 := rfl
  simp only [Lit.wf, Bool.and_eq_true, decide_eq_true_eq] at h
  exact ⟨b.toNat, by omega, by omega⟩
section
variable {H : Type} {enc : TypeId × Value → H} {w : World} {base : Nat} {spare : Nat → Bool} {held : Bool}
set_option maxRecDepth 100000 in
theorem dec_iface {n : Nat} {cs : List Value} {x : DataW H × List MemPlace} (h : DataW.trod enc Try.prog w base spare held n 110 cs = some x) : ∃ a b c d e : Int, cs = [.int .i64 a, .int .i64 b, .int .i64 c, .int .i64 d, .int .i64 e] := by
  obtain ⟨hl, m, hf⟩ := dec_fields Try.underlying110 h
  rw [cofIface] at hl
  match cs, hl with
  | [c0, c1, c2, c3, c4], _ =>
    obtain ⟨_, t0⟩ := fld hf 0 3 0 1 [c0] (by kernel_rfl) cofInt rfl
    obtain ⟨_, t1⟩ := fld hf 1 3 1 1 [c1] (by kernel_rfl) cofInt rfl
    obtain ⟨_, t2⟩ := fld hf 2 3 2 1 [c2] (by kernel_rfl) cofInt rfl
    obtain ⟨_, t3⟩ := fld hf 3 3 3 1 [c3] (by kernel_rfl) cofInt rfl
    obtain ⟨_, t4⟩ := fld hf 4 3 4 1 [c4] (by kernel_rfl) cofInt rfl
    obtain ⟨z0, rfl⟩ := tint t0
    obtain ⟨z1, rfl⟩ := tint t1
    obtain ⟨z2, rfl⟩ := tint t2
    obtain ⟨z3, rfl⟩ := tint t3
    obtain ⟨z4, rfl⟩ := tint t4
    exact ⟨z0, z1, z2, z3, z4, rfl⟩
set_option maxRecDepth 100000 in
theorem open_iface5 {r : Reach} {b0 : Nat} {v : Value} {d : DataW H} {p : List MemPlace} (hv : Value.okWide Try.prog w r b0 110 v) (h : DataW.Trod enc Try.prog w base spare held 110 v d p) :
    ∃ a b c d e : Int, v = .agg #[.int .i64 a, .int .i64 b, .int .i64 c, .int .i64 d, .int .i64 e] := by
  obtain ⟨cs, rfl, _⟩ := okWide_struct Try.underlying110 hv
  obtain ⟨n, hn⟩ := h
  obtain ⟨a, b, c, d, e, he⟩ := dec_iface hn
  refine ⟨a, b, c, d, e, ?_⟩
  congr 1
  exact Array.toList_inj.1 he
set_option maxRecDepth 100000 in
theorem open_head7 {r : Reach} {b0 : Nat} {v : Value} {d : DataW H} {p : List MemPlace} (hv : Value.okWide Try.prog w r b0 24 v) (h : DataW.Trod enc Try.prog w base spare held 24 v d p) :
    ∃ x : Hd, v = .agg #[.int .i64 x.age, .int .i64 x.kind, .int .i64 x.id, .int .i64 x.adv, .int .i64 x.seq, .int .i64 x.sum, .int .i64 x.long] := by
  obtain ⟨cs, rfl, _⟩ := okWide_struct Try.underlying24 hv
  obtain ⟨n, hn⟩ := h
  obtain ⟨x, he, _⟩ := dec_head hn
  refine ⟨x, ?_⟩
  congr 1
  exact Array.toList_inj.1 he
set_option maxRecDepth 100000 in
theorem open_two {r : Reach} {b0 : Nat} {v : Value} {d : DataW H} {p : List MemPlace} (hv : Value.okWide Try.prog w r b0 90 v) (h : DataW.Trod enc Try.prog w base spare held 90 v d p) :
    ∃ x y : Int, v = .agg #[.int .i64 x, .int .i64 y] := by
  obtain ⟨fuel, hf⟩ := h
  obtain ⟨xs, m, _, _, hlen, _, hi⟩ := DataW.trod_array Try.underlying90 hf
  have hc2 : Try.prog.cellsOf 90 = 2 := by kernel_rfl
  have hxs : ∀ i, i < 2 → ∃ y, DataW.trod enc Try.prog w base spare held m 3 ((v.cells.toList.drop i).take 1) = some y := by
    intro i h2
    have := hi i h2
    rw [cofInt, Nat.mul_one] at this
    have hl : i < xs.length := by omega
    exact ⟨xs[i], by rw [this, List.getElem?_eq_getElem hl]⟩
  rw [hc2] at hlen
  obtain ⟨c0, c1, hcs⟩ : ∃ c0 c1, v.cells.toList = [c0, c1] := by
    match hc : v.cells.toList, hlen with
    | [c0, c1], _ => exact ⟨c0, c1, rfl⟩
  obtain ⟨y0, t0⟩ := hxs 0 (by omega)
  obtain ⟨y1, t1⟩ := hxs 1 (by omega)
  rw [hcs] at t0 t1
  simp at t0 t1
  obtain ⟨z0, rfl⟩ := tint t0
  obtain ⟨z1, rfl⟩ := tint t1
  refine ⟨z0, z1, ?_⟩
  have hcells : v.cells = #[.int .i64 z0, .int .i64 z1] := by
    apply Array.toList_inj.1; rw [hcs]
  have hsz := hv
  simp only [Value.okWide, Try.underlying90] at hsz
  obtain ⟨cs, rfl, _⟩ := hsz
  exact congrArg Value.agg hcells
end

end Go.Proofs.Ytfhikkmgclkcdaa
