/-
  Arguments opened: rows of candidates.
-/
import Derived.Test.YtkaeedffhmlomaaOpen
namespace Go.Proofs.Ytkaeedffhmlomaa
open Go.ChangeShapes Go.WideShapes Go.RowKit Go.Deep Go.Joins

/-- one row of candidates: where it lies, its room, what it is -/
structure CRow where
  a : Option Addr
  cap : Nat
  l : List Cand
instance : Inhabited CRow := ⟨⟨none, 0, []⟩⟩
def CRow.val (r : CRow) : Value := .slice r.a r.l.length r.cap

section
variable {H : Type} {enc : TypeId × Value → H} {w : World} {base : Nat} {spare : Nat → Bool} {held : Bool}
set_option maxRecDepth 100000 in
theorem open_candss {a : Option Addr} {len cap : Nat} {d : DataW H} {p : List MemPlace} (h : DataW.Trod enc Try.prog w base spare held 48 (.slice a len cap) d p) :
    ∃ R : List CRow, len = R.length ∧ Reads w w.heap.size 1 a R.length (R.map CRow.val) ∧ R.length ≤ maxLen ∧ ∀ r ∈ R, CandsAt w w.heap.size r.a r.l ∧ r.l.length ≤ maxLen := by
  have hc1 : Try.prog.cellsOf 22 = 1 := by kernel_rfl
  obtain ⟨fuel, hf⟩ := h
  rcases open_slice Try.underlying48 hf with ⟨hcs, _⟩ | ⟨x, len', cap', m, n, D, Pl, hcs, _, hlc, hcm, hm, _, hi⟩
  · simp [Value.cells] at hcs
    obtain ⟨rfl, rfl, rfl⟩ := hcs
    exact ⟨[], rfl, ⟨rfl, fun h0 => absurd h0 (Nat.lt_irrefl _)⟩, by simp, by simp⟩
  · simp [Value.cells] at hcs
    obtain ⟨rfl, rfl, rfl⟩ := hcs
    have hlm : len ≤ m := by rw [hm]; split <;> omega
    have h4 : ∀ i, i < len → ∃ r : CRow, w.cell? (x.add i) = some r.val ∧ CandsAt w w.heap.size r.a r.l ∧ r.l.length ≤ maxLen := by
      intro i hil
      obtain ⟨cs', hc, ht⟩ := hi i (by omega)
      rw [hc1, Nat.mul_one] at hc
      obtain ⟨_, hcl, hat⟩ := World.cells?_some hc
      match cs', hcl with
      | [v], _ =>
        have hv := hat (i := 0) (by simp)
        have hs : ∃ a' len' cap', v = .slice a' len' cap' := by
          rcases open_slice Try.underlying22 ht with ⟨hcs, _⟩ | ⟨x', len'', cap'', _, _, _, _, hcs, _⟩
          · simp at hcs; exact ⟨_, _, _, hcs⟩
          · simp at hcs; exact ⟨_, _, _, hcs⟩
        obtain ⟨a', len', cap', rfl⟩ := hs
        obtain ⟨l, rfl, hl, hm⟩ := open_cands (⟨n, ht⟩ : DataW.Trod enc Try.prog w base spare held 22 (.slice a' len' cap') _ _)
        refine ⟨⟨a', cap', l⟩, ?_, hl, hm⟩
        rw [show x.add i = (x.add i).add 0 by rw [Go.Deep.add_add]; rfl]
        simpa [CRow.val] using hv
    obtain ⟨f, hf⟩ := choose_lt h4
    have hl : ((List.range len).map f).length = len := by simp
    refine ⟨(List.range len).map f, hl.symm, ⟨by simp, fun h0 => ?_⟩, by rw [hl]; omega, fun c hc => ?_⟩
    rotate_left
    · obtain ⟨i, hi, rfl⟩ := List.mem_map.1 hc
      exact (hf i (by simpa using hi)).2
    rw [hl] at h0
    obtain ⟨b, o, spot⟩ := x
    have hsp : spot = none := by
      have := (hf 0 h0).1
      simpa [Addr.add] using World.cell?_spot this
    subst hsp
    refine ⟨b, o, rfl, ?_, fun j u hu => ?_⟩
    · have := World.block_lt_of_cell? w _ (hf 0 h0).1
      simpa [Addr.add] using this
    · have hj := (List.getElem?_eq_some_iff.1 hu).1
      simp at hj
      have h := (hf j hj).1
      rw [add_at] at h
      rw [h, ← hu]
      simp [List.getElem?_range hj]
end

end Go.Proofs.Ytkaeedffhmlomaa
