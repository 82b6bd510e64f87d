/-
  Layer 21 in plain words: what the search has found is the tree.
-/
import Derived.Test.YtpfjgecdlilkcaaSpTree
namespace Go.Proofs.Ytpfjgecdlilkcaa

theorem tree_of_dij {E : List Ed} {r : Vx} {O : List Vx} {Z : List Ed} {T : Tab} {DD : Vx → Vx → Option Val2} {L : List Nk} (h : Dij E r O Z T) (hall : ∀ v p, T v = some p → v ∈ O) (hZ : ∀ e ∈ E, cntE e = true → e.src ∈ O → e ∈ Z) (hD : Dists E DD) (hr : r.kind = 1)
    (hs : L.Pairwise fun x y => ltX x.v y.v) (hL : ∀ n ∈ L, T n.v = some ⟨n.a, n.next⟩) (hT : ∀ v p, T v = some p → ∃ n ∈ L, n.v = v) : TreeIs E DD r L := by
  obtain ⟨h1, h2⟩ := h.ends hall hZ
  have he : (fun v => (T v).map (·.a)) = DD r := h1.unique (hD r) (fun _ _ => Iff.rfl)
  rw [he] at h2
  have hn := hops_iff hD hr h2
  have hDT : ∀ v, DD r v = (T v).map (·.a) := fun v => by rw [← he]
  refine ⟨hs, ?_, ?_, ?_⟩
  · intro v a ha
    rw [hDT] at ha
    obtain ⟨p, hp, -⟩ := Option.map_eq_some_iff.1 ha
    exact hT v p hp
  · intro n hm
    rw [hDT, hL n hm]
    rfl
  · intro n hm
    have hTn := hL n hm
    constructor
    · by_cases hvr : n.v = r
      · rw [hvr, h.root] at hTn
        have : n.next = [] := by
          injection hTn with e
          injection e with _ e
          exact e.symm
        rw [this]
        exact List.Pairwise.nil
      · exact (h.next _ _ hTn hvr).1
    · intro hp
      have := hn n.v n.a (by rw [hDT, hTn]; rfl) hp
      simp only [hTn, Option.map_some, Option.getD_some] at this
      exact this

end Go.Proofs.Ytpfjgecdlilkcaa
