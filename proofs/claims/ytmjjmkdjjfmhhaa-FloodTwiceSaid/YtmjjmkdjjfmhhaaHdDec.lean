/-
  Heads, numbers, truths: opened from what was handed in; a struct's fields, one by one.
-/
import Derived.Test.YtmjjmkdjjfmhhaaRowsOf
namespace Go.Proofs.Ytmjjmkdjjfmhhaa
open Go.ChangeShapes Go.WideShapes Go.RowKit Go.Deep Go.Joins

structure Hd where
  age : Int
  kind : Int
  id : Int
  adv : Int
  seq : Int
  sum : Int
  long : Int
deriving DecidableEq
def Hd.cells (h : Hd) : List Value := [.int .i64 h.age, .int .i64 h.kind, .int .i64 h.id, .int .i64 h.adv, .int .i64 h.seq, .int .i64 h.sum, .int .i64 h.long]

section
variable {H : Type} {enc : TypeId × Value → H} {w : World} {base : Nat} {spare : Nat → Bool} {held : Bool}
theorem cofInt : Try.prog.cellsOf 3 = 1 := by kernel_rfl
theorem cofBool : Try.prog.cellsOf 4 = 1 := by kernel_rfl
theorem cofHead : Try.prog.cellsOf 23 = 7 := by kernel_rfl
theorem tint {n : Nat} {v : Value} {y : DataW H × List MemPlace} (h : DataW.trod enc Try.prog w base spare held n 3 [v] = some y) : ∃ z : Int, v = .int .i64 z := by
  obtain ⟨z, e, _⟩ := dec_int Try.underlying3 h
  exact ⟨z, e⟩
theorem tbool {n : Nat} {v : Value} {y : DataW H × List MemPlace} (h : DataW.trod enc Try.prog w base spare held n 4 [v] = some y) : ∃ b : Bool, v = .bool b := by
  obtain ⟨b, e, _⟩ := DataW.trod_bool Try.underlying4 h
  exact ⟨b, by simpa using e⟩
/-- a struct's fields, one by one -/
theorem dec_fields {t : TypeId} {fs : Array Field} {n : Nat} {cs : List Value} {x : DataW H × List MemPlace} (ht : Try.prog.underlying t = some (.struct fs)) (h : DataW.trod enc Try.prog w base spare held n t cs = some x) :
    cs.length = Try.prog.cellsOf t ∧ ∃ m, ∀ (j : Nat) (f : Field), fs[j]? = some f → ∃ y, DataW.trod enc Try.prog w base spare held m f.type ((cs.drop f.offset).take (Try.prog.cellsOf f.type)) = some y := by
  obtain ⟨xs, m, _, _, hl, hlen, hf⟩ := DataW.trod_struct ht h
  refine ⟨hl, m, fun j f hj => ?_⟩
  have hjl : j < xs.length := by rw [hlen]; exact (Array.getElem?_eq_some_iff.1 hj).1
  exact ⟨xs[j], (hf j f hj).trans (List.getElem?_eq_getElem hjl)⟩
theorem fld {fs : Array Field} {m : Nat} {cs : List Value} (hf : ∀ (j : Nat) (f : Field), fs[j]? = some f → ∃ y, DataW.trod enc Try.prog w base spare held m f.type ((cs.drop f.offset).take (Try.prog.cellsOf f.type)) = some y)
    (j : Nat) (t : TypeId) (o k : Nat) (part : List Value) (hj : (fs[j]?).map (fun f => (f.type, f.offset)) = some (t, o)) (hk : Try.prog.cellsOf t = k) (hp : (cs.drop o).take k = part) : ∃ y, DataW.trod enc Try.prog w base spare held m t part = some y := by
  rcases h : fs[j]? with _ | f
  · rw [h] at hj; simp at hj
  · rw [h] at hj
    simp at hj
    obtain ⟨y, hy⟩ := hf j f h
    rw [hj.1, hj.2, hk, hp] at hy
    exact ⟨y, hy⟩
set_option maxRecDepth 100000 in
theorem dec_head {n : Nat} {cs : List Value} {x : DataW H × List MemPlace} (h : DataW.trod enc Try.prog w base spare held n 23 cs = some x) : ∃ d : Hd, cs = d.cells ∧ True := by
  obtain ⟨hl, m, hf⟩ := dec_fields Try.underlying23 h
  rw [cofHead] at hl
  match cs, hl with
  | [c0, c1, c2, c3, c4, c5, c6], _ =>
    obtain ⟨_, t0⟩ := fld hf 0 3 0 1 [c0] (by kernel_rfl) cofInt rfl
    obtain ⟨_, t1⟩ := fld hf 1 3 1 1 [c1] (by kernel_rfl) cofInt rfl
    obtain ⟨_, t2⟩ := fld hf 2 3 2 1 [c2] (by kernel_rfl) cofInt rfl
    obtain ⟨_, t3⟩ := fld hf 3 3 3 1 [c3] (by kernel_rfl) cofInt rfl
    obtain ⟨_, t4⟩ := fld hf 4 3 4 1 [c4] (by kernel_rfl) cofInt rfl
    obtain ⟨_, t5⟩ := fld hf 5 3 5 1 [c5] (by kernel_rfl) cofInt rfl
    obtain ⟨_, t6⟩ := fld hf 6 3 6 1 [c6] (by kernel_rfl) cofInt rfl
    obtain ⟨z0, rfl⟩ := tint t0
    obtain ⟨z1, rfl⟩ := tint t1
    obtain ⟨z2, rfl⟩ := tint t2
    obtain ⟨z3, rfl⟩ := tint t3
    obtain ⟨z4, rfl⟩ := tint t4
    obtain ⟨z5, rfl⟩ := tint t5
    obtain ⟨z6, rfl⟩ := tint t6
    exact ⟨⟨z0, z1, z2, z3, z4, z5, z6⟩, rfl, trivial⟩
end

end Go.Proofs.Ytmjjmkdjjfmhhaa
