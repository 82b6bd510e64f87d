/-
  Rows of structs in memory, whatever the struct: read, and opened from what was handed in.
-/
import Derived.Test.YtpnbibokddhheaaProg
import Derived.WalkKit
import Derived.WalkSpells
import Derived.WalkLawsBesides
import Derived.Lib.Hide
import Derived.ProofKit
import Derived.OpenShut
import Derived.Deep.Slices
import Derived.Deep.Fields
import Derived.ChangeSame
import Derived.Lib.SmallJoins
namespace Go.Proofs.Ytpnbibokddhheaa
open Go.ChangeShapes Go.WideShapes Go.RowKit Go.Deep Go.Joins

/-- The cells of a slice of n elements of 'size' cells each, in blocks below B. -/
def RowsAt {α : Type} (C : Nat) (cells : α → List Value) (w : World) (B : Nat) (A : Option Addr) (R : List α) : Prop :=
  0 < R.length → ∃ b o, A = some ⟨b, o, none⟩ ∧ b < B ∧ ∀ k (hk : k < R.length) i u, i < C → (cells R[k])[i]? = some u → w.cell? ⟨b, o + k * C + i, none⟩ = some u

section
variable {α : Type} {C : Nat} {cells : α → List Value} {w w' : World} {B B' : Nat} {A : Option Addr} {R : List α}
theorem RowsAt.below (h : RowsAt C cells w B A R) (hb : Below B w w') : RowsAt C cells w' B A R := fun h0 => by
  obtain ⟨b, o, e, hlt, hc⟩ := h h0
  exact ⟨b, o, e, hlt, fun k hk i u hi hu => (hb.cell hlt).trans (hc k hk i u hi hu)⟩
theorem RowsAt.more (h : RowsAt C cells w B A R) (hB : B ≤ B') : RowsAt C cells w B' A R := fun h0 => by
  obtain ⟨b, o, e, hlt, hc⟩ := h h0
  exact ⟨b, o, e, by omega, hc⟩
theorem RowsAt.nil : RowsAt C cells w B A ([] : List α) := fun h => absurd h (Nat.lt_irrefl _)
end

def icell (x : Int) : List Value := [.int .i64 x]
theorem rows_add (b o j : Nat) : (⟨b, o, none⟩ : Addr).add j = ⟨b, o + j, none⟩ := by
  unfold Addr.add; split <;> simp_all

section
variable {H : Type} {enc : TypeId × Value → H} {P : Program} {w : World} {base : Nat} {spare : Nat → Bool} {held : Bool}
theorem open_rows {α : Type} [Inhabited α] {t e : TypeId} {C : Nat} (cells : α → List Value) (ok : α → Prop) (hc0 : 0 < C) (ht : P.underlying t = some (.slice e)) (hC : P.cellsOf e = C)
    (dec : ∀ n cs y, DataW.trod enc P w base spare held n e cs = some y → ∃ d, cs = cells d ∧ ok d) {fuel : Nat} {cs : List Value} {x : DataW H × List MemPlace} (h : DataW.trod enc P w base spare held fuel t cs = some x) :
    ∃ (A : Option Addr) (cap : Nat) (R : List α), cs = [.slice A R.length cap] ∧ RowsAt C cells w w.heap.size A R ∧ R.length ≤ maxLen ∧ ∀ d ∈ R, ok d := by
  rcases open_slice ht h with ⟨hcs, _⟩ | ⟨a, len, cap, m, n, D, Pl, hcs, _, hlc, hcm, hm, _, hi⟩
  · exact ⟨none, 0, [], hcs, RowsAt.nil, by simp, by simp⟩
  · have hlm : len ≤ m := by rw [hm]; split <;> omega
    have h4 : ∀ i, i < len → ∃ d : α, (∀ j u, j < C → (cells d)[j]? = some u → w.cell? (a.add (i * C + j)) = some u) ∧ (cells d).length = C ∧ ok d := by
      intro i hil
      obtain ⟨cs', hc, htr⟩ := hi i (by omega)
      rw [hC] at hc
      obtain ⟨_, hcl, hat⟩ := World.cells?_some hc
      obtain ⟨d, rfl, hok⟩ := dec _ _ _ htr
      refine ⟨d, fun j u hj hu => ?_, hcl, hok⟩
      have := hat (i := j) (by omega)
      rw [← Go.Deep.add_add, this, ← hu]
    obtain ⟨f, hf⟩ := choose_lt h4
    have hl : ((List.range len).map f).length = len := by simp
    refine ⟨some a, cap, (List.range len).map f, by rw [hl]; exact hcs, fun h0 => ?_, by rw [hl]; omega, fun c hc => ?_⟩
    rotate_left
    · obtain ⟨i, hi, rfl⟩ := List.mem_map.1 hc
      exact (hf i (by simpa using hi)).2.2
    rw [hl] at h0
    have hc00 : ∃ u, w.cell? (a.add 0) = some u := by
      have hcl := (hf 0 h0).2.1
      have := (hf 0 h0).1 0 _ hc0 (List.getElem?_eq_getElem (by omega))
      exact ⟨_, by simpa using this⟩
    obtain ⟨b, o, spot⟩ := a
    obtain ⟨u0, hu0⟩ := hc00
    have hsp : spot = none := by simpa [Addr.add] using World.cell?_spot hu0
    subst hsp
    refine ⟨b, o, rfl, by simpa [Addr.add] using World.block_lt_of_cell? w _ hu0, fun k hk i u hi hu => ?_⟩
    rw [hl] at hk
    have hu' : (cells (f k))[i]? = some u := by simpa using hu
    have := (hf k hk).1 i u hi hu'
    rw [rows_add] at this
    rw [show o + k * C + i = o + (k * C + i) by omega]
    exact this
theorem dec_int {t : TypeId} (ht : P.underlying t = some (.int .i64)) {n : Nat} {v : Value} {y : DataW H × List MemPlace} (h : DataW.trod enc P w base spare held n t [v] = some y) : ∃ z : Int, v = .int .i64 z ∧ (Lit.int .i64 z).wf = true := by
  obtain ⟨z, e, _, hw⟩ := DataW.trod_int ht h
  exact ⟨z, by simpa using e, hw⟩
end

end Go.Proofs.Ytpnbibokddhheaa
