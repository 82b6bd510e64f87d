/-
  Layer 21 in plain words: the example's tree.
-/
import Derived.Test.YtpfjgecdlilkcaaSpTree
namespace Go.Proofs.Ytpfjgecdlilkcaa

def exE : List Ed := [⟨1, 1, 2, 17, 3⟩, ⟨2, 17, 1, 2, 0⟩]
def exL : List Nk := [⟨⟨1, 1⟩, ⟨0, 0⟩, []⟩, ⟨⟨1, 2⟩, ⟨3, 1⟩, [⟨1, 2⟩]⟩, ⟨⟨2, 17⟩, ⟨3, 1⟩, [⟨1, 0⟩]⟩]
theorem iter_two {E : List Ed} {L M : List RowV} (h : roundR E L = M) (h2 : roundR E M = M) : iterR E 200 L = M := by
  show iterR E 199 (roundR E L) = M
  rw [h]
  exact iterR_fix h2 199
theorem iter_three {E : List Ed} {L K M : List RowV} (h : roundR E L = K) (h' : roundR E K = M) (h2 : roundR E M = M) : iterR E 200 L = M := by
  show iterR E 198 (roundR E (roundR E L)) = M
  rw [h, h']
  exact iterR_fix h2 198
theorem ex_rows : iterR exE 200 [(⟨1, 1⟩, ⟨0, 0⟩)] = [(⟨1, 1⟩, ⟨0, 0⟩), (⟨2, 17⟩, ⟨3, 1⟩), (⟨1, 2⟩, ⟨3, 1⟩)] := iter_two (by decide) (by decide)
theorem ex_rows2 : iterR exE 200 [(⟨1, 2⟩, ⟨0, 0⟩)] = [(⟨1, 2⟩, ⟨0, 0⟩)] := iter_two (by decide) (by decide)
theorem ex_tree {DD : Vx → Vx → Option Val2} (hD : Dists exE DD) : TreeIs exE DD ⟨1, 1⟩ exL := by
  have h1 : ∀ v, DD ⟨1, 1⟩ v = getR [(⟨1, 1⟩, ⟨0, 0⟩), (⟨2, 17⟩, ⟨3, 1⟩), (⟨1, 2⟩, ⟨3, 1⟩)] v := fun v => by rw [← ex_rows]; exact (costs_dist (hD _) v).symm
  have h2 : ∀ v, DD ⟨1, 2⟩ v = getR [(⟨1, 2⟩, ⟨0, 0⟩)] v := fun v => by rw [← ex_rows2]; exact (costs_dist (hD _) v).symm
  have hop : ∀ v h, isHop exE DD ⟨1, 1⟩ v h ↔ (v = ⟨2, 17⟩ ∧ h = ⟨1, 0⟩) ∨ (v = ⟨1, 2⟩ ∧ h = ⟨1, 2⟩) := by
    intro v h
    constructor
    · rintro ⟨e, he, hc, hs, a, ha, hh⟩
      have he1 : e = ⟨1, 1, 2, 17, 3⟩ := by
        simp only [exE, List.mem_cons, List.not_mem_nil, or_false] at he
        rcases he with rfl | rfl
        · rfl
        · exact absurd hs (by decide)
      subst he1
      rcases hh with ⟨g1, g2, g3⟩ | ⟨f, hf, hfc, hfs, b, hb, g2, g3⟩
      · left
        exact ⟨g1.symm, by rw [g3]; rfl⟩
      · right
        have hf1 : f = ⟨2, 17, 1, 2, 0⟩ := by
          simp only [exE, List.mem_cons, List.not_mem_nil, or_false] at hf
          rcases hf with rfl | rfl
          · exact absurd hfs (by decide)
          · rfl
        subst hf1
        have hb2 : DD ⟨1, 2⟩ v = some b := hb
        rw [h2, getR_cons] at hb2
        by_cases hv : (⟨1, 2⟩ : Vx) = v
        · exact ⟨hv.symm, by rw [g3]; rfl⟩
        · rw [if_neg hv] at hb2
          cases hb2
    · rintro (⟨rfl, rfl⟩ | ⟨rfl, rfl⟩)
      · exact ⟨⟨1, 1, 2, 17, 3⟩, by simp [exE], by decide, rfl, ⟨3, 1⟩, by rw [h1]; decide, .inl ⟨rfl, rfl, rfl⟩⟩
      · exact ⟨⟨1, 1, 2, 17, 3⟩, by simp [exE], by decide, rfl, ⟨3, 1⟩, by rw [h1]; decide, .inr ⟨⟨2, 17, 1, 2, 0⟩, by simp [exE], by decide, rfl, ⟨0, 0⟩, by show DD ⟨1, 2⟩ ⟨1, 2⟩ = _; rw [h2]; decide, rfl, rfl⟩⟩
  refine ⟨?_, ?_, ?_, ?_⟩
  · simp [exL, ltX]
  · intro v a ha
    rw [h1, getR_cons] at ha
    by_cases g1 : (⟨1, 1⟩ : Vx) = v
    · exact ⟨_, List.mem_cons_self, g1⟩
    · rw [if_neg g1, getR_cons] at ha
      by_cases g2 : (⟨2, 17⟩ : Vx) = v
      · exact ⟨⟨⟨2, 17⟩, ⟨3, 1⟩, [⟨1, 0⟩]⟩, by simp [exL], g2⟩
      · rw [if_neg g2, getR_cons] at ha
        by_cases g3 : (⟨1, 2⟩ : Vx) = v
        · exact ⟨⟨⟨1, 2⟩, ⟨3, 1⟩, [⟨1, 2⟩]⟩, by simp [exL], g3⟩
        · rw [if_neg g3] at ha
          cases ha
  · intro n hn
    rw [h1]
    simp only [exL, List.mem_cons, List.not_mem_nil, or_false] at hn
    rcases hn with rfl | rfl | rfl <;> decide
  · intro n hn
    simp only [exL, List.mem_cons, List.not_mem_nil, or_false] at hn
    rcases hn with rfl | rfl | rfl
    · refine ⟨List.Pairwise.nil, fun h => ?_⟩
      rw [hop]
      simp
    · refine ⟨List.pairwise_singleton _ _, fun h => ?_⟩
      rw [hop]
      simp
    · refine ⟨List.pairwise_singleton _ _, fun h => ?_⟩
      rw [hop]
      simp
theorem ex_is {DD : Vx → Vx → Option Val2} (hD : Dists exE DD) {L : List Nk} (h : TreeIs exE DD ⟨1, 1⟩ L) : L = exL := tree_unique hD hD h (ex_tree hD) fun _ _ => Iff.rfl

end Go.Proofs.Ytpfjgecdlilkcaa
