/-
  The walks of the reference's Apart and better.
-/
import Derived.Test.YtkaeedffhmlomaaProg
import Derived.Test.YtkaeedffhmlomaaElectSpec
namespace Go.Proofs.Ytkaeedffhmlomaa
open Go.RowKit

set_option maxHeartbeats 400000 in
theorem better_any (a b c d a' b' c' d' : Int) (w : World) : Calls Try.prog 60 #[.agg #[.int .i64 a, .int .i64 b, .int .i64 c, .int .i64 d], .agg #[.int .i64 a', .int .i64 b', .int .i64 c', .int .i64 d']] w
    fun e w' => e = .returned (.bool (betterB ⟨a, b, c, d⟩ ⟨a', b', c', d'⟩)) ∧ Below w.heap.size w w' := by
  unfold betterB
  by_cases h : (b != b') = true
  · go_enter Try.func60, Try.ntmps60
    go_wp2
    go_ret
    exact ⟨by simp, ((Below.refl _ _).alloc (Nat.le_refl _) _).alloc (by simp) _⟩
  · have h := Bool.eq_false_iff.2 h
    go_enter Try.func60, Try.ntmps60
    go_wp2
    go_ret
    exact ⟨by simp, ((Below.refl _ _).alloc (Nat.le_refl _) _).alloc (by simp) _⟩

/-- the first i are well: numbers from 1 on, unlike -/
def apartTo (l : List Cand) (i : Nat) : Prop := (∀ j, (hj : j < i) → (hl : j < l.length) → 1 ≤ l[j].id) ∧ ∀ j k, (hk : k < j) → (hj : j < i) → (hl : j < l.length) → l[k].id ≠ l[j].id
theorem apart_yes {l : List Cand} (h : apartTo l l.length) : apartB l = true := by
  unfold apartB
  simp only [Bool.and_eq_true, List.all_eq_true, decide_eq_true_eq]
  constructor
  · intro c hc
    obtain ⟨j, hj, rfl⟩ := List.getElem_of_mem hc
    exact h.1 j hj hj
  · rw [List.nodup_iff_pairwise_ne, List.pairwise_iff_getElem]
    intro i j hi hj hij
    simp only [List.length_map] at hi hj
    simp only [List.getElem_map]
    exact h.2 j i hij hj hj
theorem apart_low {l : List Cand} {i : Nat} (hi : i < l.length) (h : ¬ 1 ≤ l[i].id) : apartB l = false := by
  unfold apartB
  rw [Bool.and_eq_false_iff]
  left
  rw [List.all_eq_false]
  exact ⟨l[i], List.getElem_mem hi, by simpa using h⟩
theorem apart_twice {l : List Cand} {i k : Nat} (hi : i < l.length) (hk : k < i) (h : l[k].id = l[i].id) : apartB l = false := by
  unfold apartB
  rw [Bool.and_eq_false_iff]
  right
  rw [decide_eq_false_iff_not, List.nodup_iff_pairwise_ne, List.pairwise_iff_getElem]
  intro hh
  have := hh k i (by simp; omega) (by simpa using hi) hk
  simp only [List.getElem_map] at this
  exact this h

set_option maxHeartbeats 1000000 in
set_option maxRecDepth 100000 in
theorem apart_any (A : Option Addr) (cap : Nat) (l : List Cand) (w : World) (B : Nat) (hl : CandsAt w B A l) (hB : B ≤ w.heap.size) (hn : l.length ≤ maxLen) :
    Calls Try.prog 16 #[.slice A l.length cap] w fun e w' => e = .returned (.bool (apartB l)) ∧ Below w.heap.size w w' := by
  unfold maxLen at hn
  have hl := hl.more hB
  have Hl := Lib.hid hl
  clear hl hB
  go_enter Try.func16, Try.ntmps16
  go_wp2
  go_loopw [3] (fun i wr => ∃ k : Nat, k ≤ l.length ∧ i = .int .i64 k ∧ apartTo l k ∧ Below w.heap.size w wr) (fun i _ => l.length - (intOf i).toNat)
  case atStart => exact ⟨0, Nat.zero_le _, rfl, ⟨fun j hj => absurd hj (Nat.not_lt_zero _), fun j k _ hj => absurd hj (Nat.not_lt_zero _)⟩, Below.refl _ _⟩
  case round =>
    obtain ⟨k, hk, rfl, hap, hb⟩ := hrel
    have Hap := Lib.hid hap
    clear hap
    by_cases hlt : k < l.length
    · obtain ⟨b, o, rfl, hbB, e0, e1, e2, e3⟩ := CandsAt.at_ (CandsAt.below Hl.out hb) k hlt
      by_cases low : l[k].id < 1
      · have hfin := apart_low hlt (by omega)
        have Hfin := Lib.hid hfin
        clear hfin
        go_wp2
        go_ret
        exact ⟨by rw [Hfin.out]; rfl, hb⟩
      · go_wp2
        have Hb := Lib.hid hb
        obtain ⟨wo, rfl⟩ : ∃ wo : World, wo = wr := ⟨_, rfl⟩
        clear hb e0 e1 e2 e3
        go_loopw [4] (fun i wr => ∃ j : Nat, j ≤ k ∧ i = .int .i64 j ∧ (∀ i, (hi : i < j) → (hil : i < l.length) → l[i].id ≠ l[k].id) ∧ Below w.heap.size w wr) (fun i _ => k - (intOf i).toNat)
        case atStart => exact ⟨0, Nat.zero_le _, rfl, fun j hj => absurd hj (Nat.not_lt_zero _), Hb.out⟩
        case round =>
          obtain ⟨j, hj, rfl, hno, hb⟩ := hrel
          have Hno := Lib.hid hno
          clear hno
          obtain ⟨b', o', hbo, _, e0, e1, e2, e3⟩ := CandsAt.at_ (CandsAt.below Hl.out hb) k hlt
          cases hbo
          by_cases hjk : j < k
          · obtain ⟨b', o', hbo, _, d0, d1, d2, d3⟩ := CandsAt.at_ (CandsAt.below Hl.out hb) j (by omega)
            cases hbo
            have hj2 : j < l.length := by omega
            by_cases same : (l[j].id == l[k].id) = true
            · have hfin := apart_twice hlt hjk (by simpa using same)
              have Hfin := Lib.hid hfin
              clear hfin
              go_wp2
              go_quiet (fail)
              go_wp2
              go_ret
              exact ⟨by rw [Hfin.out]; rfl, below_drewN hb _⟩
            · have same := Bool.eq_false_iff.2 same
              go_wp2
              go_quiet (fail)
              go_wp2
              go_roundw
              case measure => simp [intOf]; omega
              case rel =>
                refine ⟨j + 1, hjk, by go_num, fun i hi hil => ?_, below_drewN hb _⟩
                rcases Nat.lt_succ_iff_lt_or_eq.1 hi with h | h
                · exact Hno.out i h hil
                · subst h; simpa using same
          · have : j = k := by omega
            subst this
            go_wp2
            go_roundw
            case measure => simp [intOf]; omega
            case rel =>
              refine ⟨j + 1, hlt, by go_num, ⟨fun i hi hil => ?_, fun a b hab ha hal => ?_⟩, hb⟩
              · rcases Nat.lt_succ_iff_lt_or_eq.1 hi with h | h
                · exact Hap.out.1 i h hil
                · subst h; omega
              · rcases Nat.lt_succ_iff_lt_or_eq.1 ha with h | h
                · exact Hap.out.2 a b hab h hal
                · subst h; exact Hno.out b hab (by omega)
    · have : k = l.length := by omega
      subst this
      have hfin := apart_yes Hap.out
      have Hfin := Lib.hid hfin
      clear hfin
      go_wp2
      go_ret
      exact ⟨by rw [Hfin.out]; rfl, hb⟩

end Go.Proofs.Ytkaeedffhmlomaa
