/-
  Layer 18: what is had of a key is never older, in plain words.
-/
import Derived.Test.YtmjjmkdjjfmhhaaFlTake2
import Derived.Test.YtmjjmkdjjfmhhaaNwPlain
namespace Go.Proofs.Ytmjjmkdjjfmhhaa
open Go.RowKit

theorem getX_set {k : K3} {y : Lsa} : ∀ {M : List Lsa}, getX k (setX y M) = if keyH y.head = k then some y else getX k M
  | [] => by unfold setX getX; split <;> simp_all [getX]
  | x :: M => by
    unfold setX
    by_cases hx : keyH x.head = keyH y.head
    · rw [if_pos hx]
      unfold getX
      rw [hx]
      by_cases hk : keyH y.head = k
      · rw [if_pos hk, if_pos hk]
      · rw [if_neg hk, if_neg hk, if_neg hk]
    · rw [if_neg hx]
      unfold getX
      by_cases hk : keyH x.head = k
      · rw [if_pos hk, if_pos hk, if_neg (fun e => hx (by rw [hk, e]))]
      · rw [if_neg hk, if_neg hk, getX_set]
theorem setX_ages {M : List Lsa} {y : Lsa} (h : agesX M) (hy : 0 ≤ y.head.age ∧ y.head.age ≤ 60) : agesX (setX y M) := fun x hx => (setX_mem hx).elim (h x) (fun e => by rw [e]; exact hy)
/-- of each of the heads what is had is never older -/
structure KeepI (M : List Lsa) (H : List Hd) : Prop where
  ages : agesX M
  has : ∀ h ∈ H, (0 ≤ h.age ∧ h.age ≤ 60) ∧ ∃ y, getX (keyH h) M = some y ∧ 0 ≤ newerI y.head h
theorem KeepI.nil : KeepI [] [] := ⟨fun _ h => absurd h (by simp), fun _ h => absurd h (by simp)⟩
theorem keyH_sealed (h : Hd) (ls : List Lnk) (ms : List Int) : keyH (sealedH h ls ms) = keyH h := by simp only [keyH, sealedH]
theorem took_keep {room : Int} {M M' : List Lsa} {H : List Hd} {x : Lsa} {n : Int} (hi : KeepI M H) (hn : takeN room M x true = n) {B : Nat} (ht : TookTo B M x n M') (hr : rightB x = true) (h0 : n ≠ 0) :
    n ≠ 1 ∧ KeepI M' (H ++ [sealedH x.head x.links x.members]) ∧ ∃ y, getX (keyH x.head) M' = some y ∧ ∀ was, getX (keyH x.head) M = some was → 0 ≤ newerI y.head was.head := by
  have hage := right_age (h := x.head) (ka := x.ka) (kc := x.kcap) (ls := x.links) (ma := x.ma) (mc := x.mcap) (ms := x.members) hr
  unfold takeN at hn
  rw [if_pos hr] at hn
  unfold TookTo at ht
  obtain ⟨s, hs, hsa, hsk⟩ : ∃ s, sealedH x.head x.links x.members = s ∧ s.age = x.head.age ∧ keyH s = keyH x.head := ⟨_, rfl, by simp only [sealedH], keyH_sealed _ _ _⟩
  rw [hs] at hn ht ⊢
  clear hs
  have hsg : 0 ≤ s.age ∧ s.age ≤ 60 := by rw [hsa]; exact hage
  rcases ht with ⟨rfl, Aa, ca, Ab, cb, -, -, rfl⟩ | ⟨hn2, hMM⟩
  · have hset : ∀ k, getX k (setX ⟨s, Aa, ca, x.links, Ab, cb, x.members⟩ M) = if keyH x.head = k then some ⟨s, Aa, ca, x.links, Ab, cb, x.members⟩ else getX k M := fun k => by rw [getX_set]; simp only [hsk]
    have hnew : ∀ was, getX (keyH x.head) M = some was → 0 < newerI s was.head := by
      intro was hw
      rw [hw] at hn
      simp only at hn
      split at hn
      · cases hn
      · split at hn
        · cases hn
        · omega
    refine ⟨by decide, ⟨setX_ages hi.ages hsg, fun h hh => ?_⟩, _, by rw [hset, if_pos rfl], fun was hw => Int.le_of_lt (hnew was hw)⟩
    rcases List.mem_append.1 hh with hh | hh
    · obtain ⟨h1, y, hy, h2⟩ := hi.has h hh
      refine ⟨h1, ?_⟩
      rw [hset]
      by_cases hk : keyH x.head = keyH h
      · rw [if_pos hk]
        refine ⟨_, rfl, ?_⟩
        rw [← hk] at hy
        exact newer_trans h1 (hi.ages y (getX_mem hy).1) hsg h2 (hnew y hy)
      · rw [if_neg hk]
        exact ⟨y, hy, h2⟩
    · rw [List.mem_singleton] at hh
      subst hh
      refine ⟨hsg, _, by rw [hset, if_pos hsk.symm], ?_⟩
      rw [newer_self3]
      exact Int.le_refl _
  · rw [hMM]
    cases hg : getX (keyH x.head) M with
    | none =>
      rw [hg] at hn
      simp only at hn
      rw [if_neg (by simp)] at hn
      split at hn
      · exact absurd hn.symm h0
      · exact absurd hn.symm hn2
    | some y =>
      rw [hg] at hn
      simp only at hn
      have hle : 0 ≤ newerI y.head s ∧ n ≠ 1 := by
        rw [newer_anti s y.head]
        split at hn
        · omega
        · split at hn
          · omega
          · exact absurd hn.symm hn2
      refine ⟨hle.2, ⟨hi.ages, fun h hh => ?_⟩, y, rfl, fun was hw => ?_⟩
      · rcases List.mem_append.1 hh with hh | hh
        · exact hi.has h hh
        · rw [List.mem_singleton] at hh
          subst hh
          exact ⟨hsg, y, by rw [hsk]; exact hg, hle.1⟩
      · injection hw with hw
        subst hw
        rw [newer_self3]
        exact Int.le_refl _
theorem took_none {B : Nat} {M M' : List Lsa} {x : Lsa} (ht : TookTo B M x 0 M') : M' = M := by
  rcases ht with ⟨h, -⟩ | ⟨-, h⟩
  · cases h
  · exact h
theorem took_right {room : Int} {M : List Lsa} {x : Lsa} {n : Int} (hn : takeN room M x true = n) (h0 : n ≠ 0) : rightB x = true := by
  unfold takeN at hn
  by_cases h : rightB x = true
  · exact h
  · rw [if_neg h] at hn; exact absurd hn.symm h0


end Go.Proofs.Ytmjjmkdjjfmhhaa
