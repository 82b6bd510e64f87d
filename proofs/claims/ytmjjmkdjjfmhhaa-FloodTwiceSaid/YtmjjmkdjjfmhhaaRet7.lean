/-
  Blocks of seven cells; an end whose results are read in a world that is known by one fact alone.
-/
import Derived.Test.YtmjjmkdjjfmhhaaMem
namespace Go.Proofs.Ytmjjmkdjjfmhhaa
open Go.RowKit

section
variable {w w' : World} {g : Nat} {t : TypeId} {a b c d e f x : Value}
theorem Blk.both7 (h : Blk w g t #[a, b, c, d, e, f, x]) : w.cell? ⟨g, 0, none⟩ = some a ∧ w.cell? ⟨g, 1, none⟩ = some b ∧ w.cell? ⟨g, 2, none⟩ = some c ∧ w.cell? ⟨g, 3, none⟩ = some d ∧ w.cell? ⟨g, 4, none⟩ = some e ∧ w.cell? ⟨g, 5, none⟩ = some f ∧ w.cell? ⟨g, 6, none⟩ = some x ∧ ∀ i, w.frozen? ⟨g, i, none⟩ = false :=
  ⟨h.cell 0, h.cell 1, h.cell 2, h.cell 3, h.cell 4, h.cell 5, h.cell 6, fun i => h.frozen i⟩
theorem Blk.all7 {g : Nat} {t : TypeId} {a b c d e f x : Value} {F : Obj → World} (h : ∀ o, Blk (F o) g t #[a, b, c, d, e, f, x]) :
    (∀ o, (F o).cell? ⟨g, 0, none⟩ = some a) ∧ (∀ o, (F o).cell? ⟨g, 1, none⟩ = some b) ∧ (∀ o, (F o).cell? ⟨g, 2, none⟩ = some c) ∧ (∀ o, (F o).cell? ⟨g, 3, none⟩ = some d) ∧ (∀ o, (F o).cell? ⟨g, 4, none⟩ = some e) ∧ (∀ o, (F o).cell? ⟨g, 5, none⟩ = some f) ∧ (∀ o, (F o).cell? ⟨g, 6, none⟩ = some x) ∧
    (∀ o, (F o).frozen? ⟨g, 0, none⟩ = false) ∧ (∀ o, (F o).frozen? ⟨g, 1, none⟩ = false) ∧ (∀ o, (F o).frozen? ⟨g, 2, none⟩ = false) ∧ (∀ o, (F o).frozen? ⟨g, 3, none⟩ = false) ∧ (∀ o, (F o).frozen? ⟨g, 4, none⟩ = false) ∧ (∀ o, (F o).frozen? ⟨g, 5, none⟩ = false) ∧ (∀ o, (F o).frozen? ⟨g, 6, none⟩ = false) :=
  ⟨fun o => (h o).cell 0, fun o => (h o).cell 1, fun o => (h o).cell 2, fun o => (h o).cell 3, fun o => (h o).cell 4, fun o => (h o).cell 5, fun o => (h o).cell 6, fun o => (h o).frozen 0, fun o => (h o).frozen 1, fun o => (h o).frozen 2, fun o => (h o).frozen 3, fun o => (h o).frozen 4, fun o => (h o).frozen 5, fun o => (h o).frozen 6⟩
theorem Blk.set7 (h : Blk w g t #[a, b, c, d, e, f, x]) (a' b' c' d' e' f' x' : Value) :
    Blk (((((((w.setCell ⟨g, 0, none⟩ a').setCell ⟨g, 1, none⟩ b').setCell ⟨g, 2, none⟩ c').setCell ⟨g, 3, none⟩ d').setCell ⟨g, 4, none⟩ e').setCell ⟨g, 5, none⟩ f').setCell ⟨g, 6, none⟩ x') g t #[a', b', c', d', e', f', x'] := by
  have := ((((((h.set_ 0 a').set_ 1 b').set_ 2 c').set_ 3 d').set_ 4 e').set_ 5 f').set_ 6 x'
  simpa using this
theorem below_set7 {B : Nat} (h : Below B w w') (hg : B ≤ g) (a' b' c' d' e' f' x' : Value) :
    Below B w (((((((w'.setCell ⟨g, 0, none⟩ a').setCell ⟨g, 1, none⟩ b').setCell ⟨g, 2, none⟩ c').setCell ⟨g, 3, none⟩ d').setCell ⟨g, 4, none⟩ e').setCell ⟨g, 5, none⟩ f').setCell ⟨g, 6, none⟩ x') :=
  ((((((h.setCell hg _).setCell hg _).setCell hg _).setCell hg _).setCell hg _).setCell hg _).setCell hg _
end
theorem bodyPost_named {P : Program} {fn : Func} {R : Ending → World → Prop} {a : Act} {w : World} {v : Value} (C : World → Prop) (hC : C w) (hr : ∀ W, C W → (results fn a.tmps).run P W = .ok v W) (hd : a.defers = []) (hR : R (.returned v) w) :
    bodyPost P fn R Exit.ret a w := ⟨hd, v, hr w hC, hR⟩

end Go.Proofs.Ytmjjmkdjjfmhhaa
