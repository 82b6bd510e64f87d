/-
  Layer 15: lists of heads that are alike; whether ages may be.
-/
import Derived.Test.YtannngcdphafdaaRwTake
namespace Go.Proofs.Ytannngcdphafdaa
open Go.RowKit Go.Sort

set_option maxHeartbeats 2000000 in
set_option maxRecDepth 100000 in
theorem Same13 (A A' : Option Addr) (c c' : Nat) (l : List Hd) (w : World) (B B' : Nat) (h : RowsAt 7 Hd.cells w B A l) (h' : RowsAt 7 Hd.cells w B' A' l) (hB : B ≤ w.heap.size) (hB' : B' ≤ w.heap.size) (hlen : l.length ≤ 2 ^ 20) (n n' : Nat) (hn : n = l.length) (hn' : n' = l.length) :
    Calls Try.prog 48 #[.slice A n c, .slice A' n' c'] w fun r w' => r = .returned (.bool true) ∧ Below w.heap.size w w' := by
  subst hn hn'
  have H := Lib.hid (h.more hB)
  have H' := Lib.hid (h'.more hB')
  clear h h' hB hB'
  go_enter Try.func48, Try.ntmps48
  go_wp2
  go_loopw [5] (fun i wr => ∃ k : Nat, i = .int .i64 k ∧ k ≤ l.length ∧ Below w.heap.size w wr) (fun i _ => l.length - (intOf i).toNat)
  case atStart => exact ⟨0, rfl, Nat.zero_le _, Below.refl _ _⟩
  case round =>
    obtain ⟨k, rfl, hk, hb⟩ := hrel
    have Hb := Lib.hid hb
    by_cases hlt : k < l.length
    · obtain ⟨g, o, rfl, -, z0, z1, z2, z3, z4, z5, z6⟩ := row_hd (H.out.below hb) k hlt
      obtain ⟨g', o', rfl, -, y0, y1, y2, y3, y4, y5, y6⟩ := row_hd (H'.out.below hb) k hlt
      have hkl : (k : Int) < (l.length : Int) := by omega
      clear hb
      generalize l[k] = x at *
      obtain ⟨x1, x2, x3, x4, x5, x6, x7⟩ := x
      simp only at z0 z1 z2 z3 z4 z5 z6 y0 y1 y2 y3 y4 y5 y6
      go_wp2
      go_quiet (fail)
      go_wp2
      go_roundw
      case measure => simp [intOf]; omega
      case rel => exact ⟨k + 1, by go_num, hlt, below_drewN Hb.out _⟩
    · have hkk : k = l.length := by omega
      subst hkk
      clear hb
      go_wp2
      go_ret
      exact ⟨rfl, Hb.out⟩

def ageB (h : Hd) : Bool := decide (0 ≤ h.age) && decide (h.age ≤ 60)
def mayB (l : List Hd) : Bool := l.all ageB && decide (l.length ≤ 50)
theorem mayB_ages {l : List Hd} (h : mayB l = true) : (∀ x ∈ l, ageOk x) ∧ l.length ≤ 50 := by
  unfold mayB at h
  simp only [Bool.and_eq_true, List.all_eq_true, decide_eq_true_eq] at h
  refine ⟨fun x hx => ?_, h.2⟩
  have := h.1 x hx
  unfold ageB at this
  simp only [Bool.and_eq_true, decide_eq_true_eq] at this
  exact ⟨this.1, this.2⟩
theorem age_cases (a : Int) : (decide (a < 0) = true ∧ (decide (0 ≤ a) && decide (a ≤ 60)) = false) ∨ (decide (a < 0) = false ∧ decide (60 < a) = true ∧ (decide (0 ≤ a) && decide (a ≤ 60)) = false) ∨ (decide (a < 0) = false ∧ decide (60 < a) = false ∧ (decide (0 ≤ a) && decide (a ≤ 60)) = true) := by
  by_cases h : a < 0
  · left; refine ⟨by simp [h], ?_⟩; simp; omega
  · right
    by_cases h2 : 60 < a
    · left; refine ⟨by simp; omega, by simp [h2], ?_⟩; simp; omega
    · right; refine ⟨by simp; omega, by simp; omega, ?_⟩; simp; omega
set_option maxHeartbeats 2000000 in
set_option maxRecDepth 100000 in
theorem may15 (A : Option Addr) (c : Nat) (l : List Hd) (w : World) (B : Nat) (h : RowsAt 7 Hd.cells w B A l) (hB : B ≤ w.heap.size) (hm : l.length ≤ maxLen) {t : Bool} (ht : mayB l = t) (n : Nat) (hn : n = l.length) :
    Calls Try.prog 43 #[.slice A n c] w fun r w' => r = .returned (.bool t) ∧ Below w.heap.size w w' := by
  subst hn
  unfold maxLen at hm
  have H := Lib.hid (h.more hB)
  have Ht := Lib.hid ht
  clear h hB ht
  go_enter Try.func43, Try.ntmps43
  go_wp2
  go_loopw [7] (fun i wr => ∃ k : Nat, i = .int .i64 k ∧ k ≤ l.length ∧ (l.take k).all ageB = true ∧ Below w.heap.size w wr) (fun i _ => l.length - (intOf i).toNat)
  case atStart => exact ⟨0, rfl, Nat.zero_le _, by simp, Below.refl _ _⟩
  case round =>
    obtain ⟨k, rfl, hk, hall, hb⟩ := hrel
    have Hb := Lib.hid hb
    by_cases hlt : k < l.length
    · obtain ⟨g, o, rfl, -, z0, z1, z2, z3, z4, z5, z6⟩ := row_hd (H.out.below hb) k hlt
      have hkl : (k : Int) < (l.length : Int) := by omega
      have hno : ageB l[k] = false → mayB l = false := fun h => by
        unfold mayB
        have : l.all ageB = false := by
          rw [List.all_eq_false]
          exact ⟨l[k], List.getElem_mem hlt, by simp [h]⟩
        rw [this]; rfl
      have hyes : ageB l[k] = true → (l.take (k + 1)).all ageB = true := fun h => by
        rw [List.take_succ_eq_append_getElem hlt, List.all_append, hall]
        simp [h]
      have Hno := Lib.hid hno
      have Hyes := Lib.hid hyes
      clear hb hno hyes hall
      generalize l[k] = x at *
      obtain ⟨x1, x2, x3, x4, x5, x6, x7⟩ := x
      simp only at z0 z1 z2 z3 z4 z5 z6
      rcases age_cases x1 with ⟨t1, e⟩ | ⟨t1, t2, e⟩ | ⟨t1, t2, e⟩
      · have ht2 : t = false := by rw [← Ht.out]; exact Hno.out e
        subst ht2
        clear e
        go_wp2
        go_ret
        exact ⟨rfl, Hb.out.alloc Hb.out.size _⟩
      · have ht2 : t = false := by rw [← Ht.out]; exact Hno.out e
        subst ht2
        clear e
        go_wp2
        go_ret
        exact ⟨rfl, Hb.out.alloc Hb.out.size _⟩
      · have Hy := Lib.hid (Hyes.out e)
        clear e
        go_wp2
        go_roundw
        case measure => simp [intOf]; omega
        case rel => exact ⟨k + 1, by go_num, hlt, Hy.out, Hb.out.alloc Hb.out.size _⟩
    · have hkk : k = l.length := by omega
      subst hkk
      rw [List.take_length] at hall
      have ht2 : decide ((l.length : Int) ≤ 50) = t := by
        rw [← Ht.out]
        unfold mayB
        rw [hall, Bool.true_and]
        simp only [decide_eq_decide]
        omega
      clear hb hall
      go_wp2
      go_ret
      exact ⟨rfl, Hb.out⟩

end Go.Proofs.Ytannngcdphafdaa
