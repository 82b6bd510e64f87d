/-
  Arguments opened: slices of structs, as lists.
-/
import Derived.Test.YtkaeedffhmlomaaProg
import Derived.Test.YtkaeedffhmlomaaBase
import Derived.ProofKit
import Derived.OpenShut
import Derived.Deep.Slices
import Derived.Deep.Fields
import Derived.ChangeSame
namespace Go.Proofs.Ytkaeedffhmlomaa
open Go.ChangeShapes Go.WideShapes Go.RowKit Go.Deep

section
variable {H : Type} {enc : TypeId × Value → H} {P : Program} {w : World} {base : Nat} {spare : Nat → Bool} {held : Bool}
theorem open_slice_fields {t e : TypeId} {fs : Array Field} {fuel : Nat} {cs : List Value} {x : DataW H × List MemPlace} (ht : P.underlying t = some (.slice e)) (he : P.underlying e = some (.struct fs))
    (hone : oneCellFields P fs = true) (hC : P.cellsOf e = fs.size) (h : DataW.trod enc P w base spare held fuel t cs = some x) :
    (cs = [.slice none 0 0] ∧ x = (.nil, [])) ∨
    ∃ (a : Addr) (len cap m : Nat) (D : Nat → DataW H) (Pl : Nat → List MemPlace), cs = [.slice (some a) len cap] ∧ base ≤ a.block ∧ len ≤ cap ∧ cap ≤ maxLen ∧ m = (if spare a.block then cap else len) ∧
      x = (.slice ((List.range len).map D) ((List.range (m - len)).map fun j => D (len + j)), MemPlace.row a (m * fs.size) ++ (List.range m).flatMap Pl) ∧
      ∀ i, i < m → ∃ (ys : List (DataW H × List MemPlace)) (n : Nat), D i = .agg (ys.map (·.1)) ∧ Pl i = ys.flatMap (·.2) ∧ ys.length = fs.size ∧
        ∀ (j : Nat) (f : Field), fs[j]? = some f → ∃ (v : Value) (y : DataW H × List MemPlace), w.cell? (a.add (i * fs.size + j)) = some v ∧ ys[j]? = some y ∧ DataW.trod enc P w base spare held n f.type [v] = some y := by
  rcases open_slice ht h with h0 | ⟨a, len, cap, m, n, D, Pl, hcs, hb, hl, hm, hmm, hx, hi⟩
  · exact .inl h0
  · refine .inr ⟨a, len, cap, m, D, Pl, hcs, hb, hl, hm, hmm, by rw [hC] at hx; exact hx, fun i him => ?_⟩
    obtain ⟨cs', hc, ht'⟩ := hi i him
    rw [hC] at hc
    obtain ⟨ys, n', hn', hy, hlen, hyl, hf⟩ := DataW.trod_struct he ht'
    obtain ⟨_, hcl, hat⟩ := World.cells?_some hc
    simp only [Prod.mk.injEq] at hy
    refine ⟨ys, n', hy.1, hy.2, hyl, fun j f hj => ?_⟩
    obtain ⟨ho, hk⟩ := hone_of hone j f hj
    have hjl : j < fs.size := (Array.getElem?_eq_some_iff.1 hj).1
    have hcell := hat j hjl
    have hv : cs'[j]? = some (cs'[j]'(by omega)) := List.getElem?_eq_getElem (by omega)
    have h1 := hf j f hj
    rw [ho, hk] at h1
    have hone' : (cs'.drop j).take 1 = [cs'[j]'(by omega)] := by
      rw [List.drop_eq_getElem_cons (by omega)]
      rfl
    rw [hone'] at h1
    have hys : ys[j]? = some (ys[j]'(by omega)) := List.getElem?_eq_getElem (by omega)
    refine ⟨_, _, ?_, hys, h1.trans hys⟩
    rw [← Go.Deep.add_add, hcell, hv]
end

theorem add_at (b o j : Nat) : (⟨b, o, none⟩ : Addr).add j = ⟨b, o + j, none⟩ := by
  unfold Addr.add; split <;> simp_all

theorem cellsC : Try.prog.cellsOf 33 = 4 := by kernel_rfl

section
variable {H : Type} {enc : TypeId × Value → H} {w : World} {base : Nat} {spare : Nat → Bool} {held : Bool}
theorem open_cands {a : Option Addr} {len cap : Nat} {d : DataW H} {p : List MemPlace} (h : DataW.Trod enc Try.prog w base spare held 22 (.slice a len cap) d p) :
    ∃ l : List Cand, len = l.length ∧ CandsAt w w.heap.size a l ∧ l.length ≤ maxLen := by
  obtain ⟨fuel, hf⟩ := h
  rcases open_slice_fields Try.underlying22 Try.underlying33 (by kernel_rfl) cellsC hf with ⟨hcs, _⟩ | ⟨x, len', cap', m, D, Pl, hcs, _, hlc, hcm, hm, _, hi⟩
  · simp [Value.cells] at hcs
    obtain ⟨rfl, rfl, rfl⟩ := hcs
    exact ⟨[], rfl, ⟨rfl, fun h0 => absurd h0 (Nat.lt_irrefl _)⟩, by simp⟩
  · simp [Value.cells] at hcs
    obtain ⟨rfl, rfl, rfl⟩ := hcs
    have hlm : len ≤ m := by rw [hm]; split <;> omega
    have h4 : ∀ i, i < len → ∃ c : Cand, w.cell? (x.add (i * 4)) = some (.int .i64 c.id) ∧ w.cell? (x.add (i * 4 + 1)) = some (.int .i64 c.prio) ∧ w.cell? (x.add (i * 4 + 2)) = some (.int .i64 c.dr) ∧ w.cell? (x.add (i * 4 + 3)) = some (.int .i64 c.bdr) := by
      intro i hil
      obtain ⟨ys, n, _, _, _, hfl⟩ := hi i (by omega)
      have hint : ∀ (t : TypeId), t = 3 → ∀ v y, DataW.trod enc Try.prog w base spare held n t [v] = some y → ∃ z, v = .int .i64 z := by
        intro t ht0 v y ht
        rw [ht0] at ht
        obtain ⟨z, e, _, _⟩ := DataW.trod_int Try.underlying3 ht
        exact ⟨z, by simpa using e⟩
      obtain ⟨v0, y0, c0, _, t0⟩ := hfl 0 _ rfl
      obtain ⟨v1, y1, c1, _, t1⟩ := hfl 1 _ rfl
      obtain ⟨v2, y2, c2, _, t2⟩ := hfl 2 _ rfl
      obtain ⟨v3, y3, c3, _, t3⟩ := hfl 3 _ rfl
      obtain ⟨z0, rfl⟩ := hint _ rfl _ _ t0
      obtain ⟨z1, rfl⟩ := hint _ rfl _ _ t1
      obtain ⟨z2, rfl⟩ := hint _ rfl _ _ t2
      obtain ⟨z3, rfl⟩ := hint _ rfl _ _ t3
      exact ⟨⟨z0, z1, z2, z3⟩, c0, c1, c2, c3⟩
    obtain ⟨f, hf⟩ := @choose_lt _ ⟨Cand.zero⟩ _ _ h4
    have hl : ((List.range len).map f).length = len := by simp
    refine ⟨(List.range len).map f, hl.symm, ⟨length_flat _, fun h0 => ?_⟩, by rw [hl]; omega⟩
    rw [hl] at h0
    obtain ⟨b, o, spot⟩ := x
    have hsp : spot = none := by
      have := (hf 0 h0).1
      simpa [Addr.add] using World.cell?_spot this
    subst hsp
    refine ⟨b, o, rfl, ?_, fun j u hu => ?_⟩
    · have := World.block_lt_of_cell? w _ (hf 0 h0).1
      simpa [Addr.add] using this
    · have hj := (List.getElem?_eq_some_iff.1 hu).1
      rw [length_flat, hl] at hj
      have hk : j / 4 < len := by omega
      have h := hf (j / 4) hk
      have hg := flat4 ((List.range len).map f) (j / 4) (by rw [hl]; exact hk)
      have hgk : ((List.range len).map f)[j / 4]'(by rw [hl]; exact hk) = f (j / 4) := by simp
      rw [hgk] at hg
      simp only [add_at] at h
      have hr : j = j / 4 * 4 ∨ j = j / 4 * 4 + 1 ∨ j = j / 4 * 4 + 2 ∨ j = j / 4 * 4 + 3 := by omega
      rcases hr with e | e | e | e
      · rw [e] at hu ⊢; rw [hg.1] at hu; rw [h.1]; exact hu
      · rw [e] at hu ⊢; rw [hg.2.1] at hu; rw [h.2.1]; exact hu
      · rw [e] at hu ⊢; rw [hg.2.2.1] at hu; rw [h.2.2.1]; exact hu
      · rw [e] at hu ⊢; rw [hg.2.2.2] at hu; rw [h.2.2.2]; exact hu
end

end Go.Proofs.Ytkaeedffhmlomaa
