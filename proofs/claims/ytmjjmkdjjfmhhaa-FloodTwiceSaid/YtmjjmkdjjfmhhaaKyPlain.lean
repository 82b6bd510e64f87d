/-
  Keys in order, in plain words.
-/
import Derived.Test.YtmjjmkdjjfmhhaaCmpTail
import Derived.Test.YtmjjmkdjjfmhhaaKyThree
namespace Go.Proofs.Ytmjjmkdjjfmhhaa

def cmpK (a b : K3) : Int := cmp3 a.kind a.id a.adv b.kind b.id b.adv
def lessK (a b : K3) : Bool := less3 a.kind a.id a.adv b.kind b.id b.adv
theorem cmpK_less (a b : K3) : decide (cmpK a b < 0) = lessK a b := cmp3_less _ _ _ _ _ _
def sortK (L : List K3) : List K3 := L.mergeSort fun x y => !lessK y x
theorem lessK_iff (a b : K3) : lessK a b = true ↔ a.kind < b.kind ∨ (a.kind = b.kind ∧ (a.id < b.id ∨ (a.id = b.id ∧ a.adv < b.adv))) := by
  simp [lessK, less3]
theorem lessK_irr (a : K3) : lessK a a = false := by
  rw [Bool.eq_false_iff]; intro h; rw [lessK_iff] at h; omega
theorem lessK_tot {a b : K3} (h1 : lessK a b = false) (h2 : lessK b a = false) : a = b := by
  rw [Bool.eq_false_iff, ne_eq, lessK_iff] at h1 h2
  obtain ⟨a1, a2, a3⟩ := a
  obtain ⟨b1, b2, b3⟩ := b
  simp only at h1 h2
  simp only [K3.mk.injEq]
  omega
theorem lessK_trans {a b c : K3} (h1 : lessK a b = true) (h2 : lessK b c = true) : lessK a c = true := by
  rw [lessK_iff] at *; omega
theorem lessK_ntrans {a b c : K3} (h1 : lessK a b = false) (h2 : lessK b c = false) : lessK a c = false := by
  rw [Bool.eq_false_iff, ne_eq, lessK_iff] at *; omega
theorem sortK_perm (L : List K3) : (sortK L).Perm L := List.mergeSort_perm _ _
theorem sortK_len (L : List K3) : (sortK L).length = L.length := (sortK_perm L).length_eq
theorem sortK_sorted (L : List K3) : (sortK L).Pairwise fun x y => lessK y x = false := by
  have := List.pairwise_mergeSort (le := fun x y => !lessK y x) (fun a b c h1 h2 => by
    simp only [Bool.not_eq_true'] at *
    exact lessK_ntrans h2 h1) (fun a b => by
    cases h : lessK b a
    · simp
    · cases h' : lessK a b
      · simp
      · exact absurd (lessK_trans h h') (by rw [lessK_irr]; simp)) L
  exact this.imp fun {a b} h => by simpa using h
/-- two lists of the same keys, both in order, are one -/
theorem sorted_one : ∀ {L M : List K3}, L.Perm M → (L.Pairwise fun x y => lessK y x = false) → (M.Pairwise fun x y => lessK y x = false) → L = M
  | [], M, hp, _, _ => by simpa using hp.symm.eq_nil
  | x :: L, [], hp, _, _ => by simpa using hp.eq_nil
  | x :: L, y :: M, hp, h1, h2 => by
    rw [List.pairwise_cons] at h1 h2
    have hxy : x = y := by
      have hx : x ∈ y :: M := hp.subset (by simp)
      have hy : y ∈ x :: L := hp.symm.subset (by simp)
      rcases List.mem_cons.1 hx with e | hx
      · exact e
      · rcases List.mem_cons.1 hy with e | hy
        · exact e.symm
        · exact lessK_tot (h2.1 x hx) (h1.1 y hy)
    subst hxy
    rw [sorted_one (List.Perm.cons_inv hp) h1.2 h2.2]
theorem sortK_of_perm {L M : List K3} (h : L.Perm M) : sortK L = sortK M := sorted_one (((sortK_perm L).trans h).trans (sortK_perm M).symm) (sortK_sorted L) (sortK_sorted M)
theorem sortK_of_sorted {L : List K3} (h : L.Pairwise fun x y => lessK y x = false) : sortK L = L := sorted_one (sortK_perm L) (sortK_sorted L) h

end Go.Proofs.Ytmjjmkdjjfmhhaa
