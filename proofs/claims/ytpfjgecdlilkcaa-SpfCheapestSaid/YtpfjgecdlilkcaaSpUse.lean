/-
  Layer 21: what a tree says: few nodes, few hops, low costs; what is found in it.
-/
import Derived.Test.YtpfjgecdlilkcaaSpTreeW
import Derived.Test.YtpfjgecdlilkcaaSpFind
import Derived.Test.YtpfjgecdlilkcaaSpRows
namespace Go.Proofs.Ytpfjgecdlilkcaa
open Go.RowKit

theorem isHop_ok {E : List Ed} {DD : Vx → Vx → Option Val2} {r v : Vx} {h : Hp} (hr : r.kind = 1) (hh : isHop E DD r v h) : okHp h := by
  obtain ⟨e, he, hc, hs, a, ha, hh⟩ := hh
  obtain ⟨-, hdm, hk⟩ := cntE_iff.1 hc
  have hsk : e.fk = 1 := by rw [← hr, ← hs]; rfl
  have hlan : 0 ≤ e.ti / 16 ∧ e.ti / 16 ≤ 3 := by
    rcases mayV_iff.1 hdm with ⟨g, -⟩ | ⟨-, g1, g2⟩
    · have : e.tk = 1 := g
      omega
    · have g3 : (0 : Int) ≤ e.ti := g1
      have g4 : e.ti ≤ 63 := g2
      omega
  rcases hh with ⟨-, -, rfl⟩ | ⟨f, hf, hfc, hfs, b, -, -, rfl⟩
  · exact ⟨hlan, by simp, by simp⟩
  · obtain ⟨-, hfm, hfk⟩ := cntE_iff.1 hfc
    have hfsk : f.fk = e.tk := congrArg Vx.kind hfs
    rcases mayV_iff.1 hfm with ⟨-, g1, g2⟩ | ⟨g, -⟩
    · have g3 : (1 : Int) ≤ f.ti := g1
      have g4 : f.ti ≤ 15 := g2
      exact ⟨hlan, by simp only; omega, by simp only; omega⟩
    · have : f.tk = 2 := g
      omega
section
variable {E : List Ed} {DD : Vx → Vx → Option Val2} {r v : Vx} {L : List Nk}
theorem tree_low (hr : r.kind = 1) (h : TreeIs E DD r L) : ∀ n ∈ L, n.next.length ≤ 64 := fun n hn => hops_few (h.next n hn).1 fun x hx => isHop_ok hr (((h.next n hn).2 x).1 hx)
theorem tree_len (hD : Dists E DD) (hm : mayV r = true) (h : TreeIs E DD r L) : L.length ≤ 79 := by
  have hn : (L.map (·.v)).Nodup := (pairwise_map_key h.sorted).imp fun {a b} g => by rintro rfl; exact ltX_irr _ g
  have := may_len hn fun u hu => by
    obtain ⟨n, hn, rfl⟩ := List.mem_map.1 hu
    exact (hD r).may hm _ _ (h.val n hn)
  rwa [List.length_map] at this
theorem dist_low (hD : Dists E DD) {a : Val2} (hE : E.length ≤ 4000) (ha : DD r v = some a) : a.c ≤ 100000000 ∧ a.h ≤ 1000000 := by
  rw [← costs_dist (hD r)] at ha
  obtain ⟨k, hk, -, -, e⟩ := fix_some ha
  have h0 : BndR 0 [(r, (⟨0, 0⟩ : Val2))] := fun p hp => by
    rw [List.mem_singleton] at hp
    rw [hp]
    simp
  have h1 := h0.iter E 200 _ (List.getElem_mem hk)
  rw [e] at h1
  simp only at h1
  omega
end
section
variable {E : List Ed} {DD : Vx → Vx → Option Val2} {r v : Vx} {N : List NodeM}
theorem nodes_low (hr : r.kind = 1) (h : TreeIs E DD r (N.map NodeM.nk)) : ∀ x ∈ N, x.next.length ≤ 2 ^ 16 := fun x hx => Nat.le_trans (tree_low hr h _ (List.mem_map.2 ⟨x, hx, rfl⟩)) (by decide)
theorem treeOf_low (hr : r.kind = 1) (h : TreeOf E DD r (N.map NodeM.nk)) : ∀ x ∈ N, x.next.length ≤ 2 ^ 16 := by
  cases hm : mayV r with
  | true => exact nodes_low hr (h.1 hm)
  | false =>
    have := h.2 hm
    intro x hx
    rw [List.map_eq_nil_iff] at this
    rw [this] at hx
    cases hx
theorem treeOf_len (hD : Dists E DD) (h : TreeOf E DD r (N.map NodeM.nk)) : N.length ≤ 79 := by
  cases hm : mayV r with
  | true => have := tree_len hD hm (h.1 hm); rwa [List.length_map] at this
  | false =>
    have := h.2 hm
    rw [List.map_eq_nil_iff] at this
    rw [this]
    exact Nat.zero_le _
theorem find_has (h : TreeIs E DD r (N.map NodeM.nk)) {a : Val2} (ha : DD r v = some a) : ∃ x, findN N v = some x ∧ x ∈ N.map NodeM.nk ∧ x.v = v ∧ x.a = a := by
  obtain ⟨n, hn, hv⟩ := h.has v a ha
  cases hf : findN N v with
  | none =>
    unfold findN at hf
    rw [List.find?_eq_none] at hf
    exact absurd (decide_eq_true hv) (hf n hn)
  | some x =>
    unfold findN at hf
    have h1 := List.mem_of_find?_eq_some hf
    have h2 := List.find?_some hf
    rw [decide_eq_true_eq] at h2
    have h3 := h.val x h1
    rw [h2, ha] at h3
    injection h3 with h3
    exact ⟨x, rfl, h1, h2, h3.symm⟩
/-- a node is found by its vertex -/
theorem find_own (h : TreeIs E DD r (N.map NodeM.nk)) {n : NodeM} (hn : n ∈ N) : findN N n.v = some n.nk := by
  have hm : n.nk ∈ N.map NodeM.nk := List.mem_map.2 ⟨n, hn, rfl⟩
  obtain ⟨x, hx, hxm, hxv, hxa⟩ := find_has h (h.val _ hm)
  rw [show n.nk.v = n.v from rfl] at hx
  rw [hx]
  congr 1
  obtain ⟨i, hi, e1⟩ := List.getElem_of_mem hxm
  obtain ⟨j, hj, e2⟩ := List.getElem_of_mem hm
  have hs := List.pairwise_iff_getElem.1 h.sorted
  rcases Nat.lt_trichotomy i j with g | g | g
  · have := hs i j hi hj g
    rw [e1, e2, hxv] at this
    exact absurd this (ltX_irr _)
  · subst g
    rw [← e1, ← e2]
  · have := hs j i hj hi g
    rw [e1, e2, hxv] at this
    exact absurd this (ltX_irr _)
end

end Go.Proofs.Ytpfjgecdlilkcaa
