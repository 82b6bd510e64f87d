/-
  Which head is newer, in plain words: one of two is, and what follows what is newer is.
-/
import Derived.Test.YtmjjmkdjjfmhhaaFlOrd
namespace Go.Proofs.Ytmjjmkdjjfmhhaa

/-- by ages alone -/
def ageI (x y : Int) : Int := if x = 60 ∧ y ≠ 60 then 1 else if y = 60 ∧ x ≠ 60 then -1 else if y + 6 < x then -1 else if x + 6 < y then 1 else 0
theorem ageI_is (x y : Int) : orL [cmpI (goneI x) (goneI y), youngI x y] = ageI x y := by
  unfold ageI
  by_cases h1 : x = 60 <;> by_cases h2 : y = 60
  · subst h1 h2; rfl
  · subst h1
    rw [if_pos ⟨rfl, h2⟩]
    simp [goneI, h2, cmpI, orL]
  · subst h2
    rw [if_neg (by simp [h1]), if_pos ⟨rfl, h1⟩]
    simp [goneI, h1, cmpI, orL]
  · rw [if_neg (by simp [h1]), if_neg (by simp [h2])]
    have e : cmpI (goneI x) (goneI y) = 0 := by simp [goneI, h1, h2, cmpI]
    have e2 : orL [cmpI (goneI x) (goneI y), youngI x y] = youngI x y := by
      rw [e]
      unfold orL
      rw [if_pos rfl]
      unfold orL
      split
      · rename_i h; rw [h]; rfl
      · rfl
    rw [e2]
    unfold youngI cmpI
    by_cases h3 : y + 6 < x
    · rw [if_pos (.inl h3), if_pos (by omega), if_pos h3]
    · by_cases h4 : x + 6 < y
      · rw [if_pos (.inr h4), if_neg (by omega), if_pos (by omega), if_neg h3, if_pos h4]
      · rw [if_neg (by omega), if_neg h3, if_neg h4]
theorem newer_cases3 (a b : Hd) : (a.seq < b.seq ∧ newerI a b = -1) ∨ (b.seq < a.seq ∧ newerI a b = 1) ∨ (a.seq = b.seq ∧ a.sum < b.sum ∧ newerI a b = -1) ∨ (a.seq = b.seq ∧ b.sum < a.sum ∧ newerI a b = 1) ∨ (a.seq = b.seq ∧ a.sum = b.sum ∧ newerI a b = ageI a.age b.age) := by
  unfold newerI
  rcases cmpI_cases a.seq b.seq with ⟨h, e⟩ | ⟨h0, h, e⟩ | ⟨h0, h, e⟩
  · exact .inl ⟨h, by rw [e]; rfl⟩
  · exact .inr (.inl ⟨h, by rw [e]; rfl⟩)
  · have h2 : a.seq = b.seq := by omega
    rcases cmpI_cases a.sum b.sum with ⟨h, e'⟩ | ⟨h0, h, e'⟩ | ⟨h0, h, e'⟩
    · exact .inr (.inr (.inl ⟨h2, h, by rw [e, e']; rfl⟩))
    · exact .inr (.inr (.inr (.inl ⟨h2, h, by rw [e, e']; rfl⟩)))
    · refine .inr (.inr (.inr (.inr ⟨h2, by omega, ?_⟩)))
      rw [e, e', ← ageI_is]
      rfl
theorem ageI_anti (x y : Int) : ageI y x = - ageI x y := by
  unfold ageI
  repeat' split
  all_goals omega
theorem newer_anti (a b : Hd) : newerI b a = - newerI a b := by
  have h := ageI_anti a.age b.age
  rcases newer_cases3 a b with h1 | h1 | h1 | h1 | h1 <;> rcases newer_cases3 b a with h2 | h2 | h2 | h2 | h2 <;> omega
theorem ageI_trans {x y z : Int} (hx : 0 ≤ x ∧ x ≤ 60) (hy : 0 ≤ y ∧ y ≤ 60) (hz : 0 ≤ z ∧ z ≤ 60) (h1 : 0 ≤ ageI y x) (h2 : 0 < ageI z y) : 0 ≤ ageI z x := by
  unfold ageI at *
  repeat' split at h1
  all_goals repeat' split at h2
  all_goals repeat' split
  all_goals omega
theorem newer_trans {x y z : Hd} (hx : 0 ≤ x.age ∧ x.age ≤ 60) (hy : 0 ≤ y.age ∧ y.age ≤ 60) (hz : 0 ≤ z.age ∧ z.age ≤ 60) (h1 : 0 ≤ newerI y x) (h2 : 0 < newerI z y) : 0 ≤ newerI z x := by
  have ht := fun a b => ageI_trans (x := x.age) (y := y.age) (z := z.age) hx hy hz a b
  rcases newer_cases3 y x with c1 | c1 | c1 | c1 | c1 <;> rcases newer_cases3 z y with c2 | c2 | c2 | c2 | c2 <;> rcases newer_cases3 z x with c3 | c3 | c3 | c3 | c3 <;> first | omega | (rw [c3.2.2]; exact ht (by omega) (by omega))
theorem newer_self3 (h : Hd) : newerI h h = 0 := by have := newer_anti h h; omega

end Go.Proofs.Ytmjjmkdjjfmhhaa
