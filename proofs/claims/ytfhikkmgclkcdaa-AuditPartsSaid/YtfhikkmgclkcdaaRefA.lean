/-
  The walks of the reference's Apart and better.
-/
import Derived.Test.YtfhikkmgclkcdaaProg
import Derived.Test.YtfhikkmgclkcdaaElectSpec
namespace Go.Proofs.Ytfhikkmgclkcdaa
open Go.RowKit

set_option maxHeartbeats 400000 in
theorem better_any (a b c d a' b' c' d' : Int) (w : World) : Calls Try.prog 157 #[.agg #[.int .i64 a, .int .i64 b, .int .i64 c, .int .i64 d], .agg #[.int .i64 a', .int .i64 b', .int .i64 c', .int .i64 d']] w
    fun e w' => e = .returned (.bool (betterB ⟨a, b, c, d⟩ ⟨a', b', c', d'⟩)) ∧ Below w.heap.size w w' := by
  unfold betterB
  by_cases h : (b != b') = true
  · go_enter Try.func157, Try.ntmps157
    go_wp2
    go_ret
    exact ⟨by simp, ((Below.refl _ _).alloc (Nat.le_refl _) _).alloc (by simp) _⟩
  · have h := Bool.eq_false_iff.2 h
    go_enter Try.func157, Try.ntmps157
    go_wp2
    go_ret
    exact ⟨by simp, ((Below.refl _ _).alloc (Nat.le_refl _) _).alloc (by simp) _⟩

/-- the first i are well: numbers from 1 on, unlike -/
def apartTo (l : List Cand) (i : Nat) : Prop := (∀ j, (hj : j < i) → (hl : j < l.length) → 1 ≤ l[j].id) ∧ ∀ j k, (hk : k < j) → (hj : j < i) → (hl : j < l.length) → l[k].id ≠ l[j].id
theorem apart_yes {l : List Cand} (h : apartTo l l.length) : apartB l = true := by
  unfold apartB
  simp only [Bool.and_eq_true, List.all_eq_true, decide_eq_true_eq]
  constructor
  · intro c hc
    obtain ⟨j, hj, rfl⟩ := List.getElem_of_mem hc
    exact h.1 j hj hj
  · rw [List.nodup_iff_pairwise_ne, List.pairwise_iff_getElem]
    intro i j hi hj hij
    simp only [List.length_map] at hi hj
    simp only [List.getElem_map]
    exact h.2 j i hij hj hj
theorem apart_low {l : List Cand} {i : Nat} (hi : i < l.length) (h : ¬ 1 ≤ l[i].id) : apartB l = false := by
  unfold apartB
  rw [Bool.and_eq_false_iff]
  left
  rw [List.all_eq_false]
  exact ⟨l[i], List.getElem_mem hi, by simpa using h⟩
theorem apart_twice {l : List Cand} {i k : Nat} (hi : i < l.length) (hk : k < i) (h : l[k].id = l[i].id) : apartB l = false := by
  unfold apartB
  rw [Bool.and_eq_false_iff]
  right
  rw [decide_eq_false_iff_not, List.nodup_iff_pairwise_ne, List.pairwise_iff_getElem]
  intro hh
  have := hh k i (by simp; omega) (by simpa using hi) hk
  simp only [List.getElem_map] at this
  exact this h

end Go.Proofs.Ytfhikkmgclkcdaa
