/-
  Keys in order, and lists of keys that are alike: what the document asks of them.
-/
import Derived.Test.YtannngcdphafdaaKyPlain
import Derived.Test.YtannngcdphafdaaGrown
namespace Go.Proofs.Ytannngcdphafdaa
open Go.RowKit

theorem less_cases (a1 a2 a3 b1 b2 b3 : Int) : (¬a1 = b1 ∧ less3 a1 a2 a3 b1 b2 b3 = decide (a1 < b1)) ∨ (a1 = b1 ∧ ¬a2 = b2 ∧ less3 a1 a2 a3 b1 b2 b3 = decide (a2 < b2)) ∨ (a1 = b1 ∧ a2 = b2 ∧ less3 a1 a2 a3 b1 b2 b3 = decide (a3 < b3)) := by
  unfold less3
  by_cases h1 : a1 = b1
  · by_cases h2 : a2 = b2
    · right; right; simp [h1, h2]
    · right; left; simp [h1, h2]
  · left; simp [h1]
set_option maxHeartbeats 1000000 in
theorem Less07 (a1 a2 a3 b1 b2 b3 : Int) (w : World) {z : Bool} (hz : lessK ⟨a1, a2, a3⟩ ⟨b1, b2, b3⟩ = z) :
    Calls Try.prog 75 #[.agg #[.int .i64 a1, .int .i64 a2, .int .i64 a3], .agg #[.int .i64 b1, .int .i64 b2, .int .i64 b3]] w fun r w' => r = .returned (.bool z) ∧ Below w.heap.size w w' := by
  have Hb := Lib.hid (fun o q => ((Below.refl w.heap.size w).alloc (Nat.le_refl _) o).alloc (by simp) q)
  have hz : less3 a1 a2 a3 b1 b2 b3 = z := hz
  rcases less_cases a1 a2 a3 b1 b2 b3 with ⟨h, e⟩ | ⟨rfl, h, e⟩ | ⟨rfl, rfl, e⟩
  all_goals
    rw [e] at hz
    subst hz
    clear e
    go_enter Try.func75, Try.ntmps75
    go_wp2
    go_ret
    exact ⟨rfl, Hb.out _ _⟩

set_option maxHeartbeats 2000000 in
set_option maxRecDepth 100000 in
theorem Keys_same (A A' : Option Addr) (c c' : Nat) (l : List K3) (w : World) (B B' : Nat) (h : RowsAt 3 K3.cells w B A l) (h' : RowsAt 3 K3.cells w B' A' l) (hB : B ≤ w.heap.size) (hB' : B' ≤ w.heap.size) (hlen : l.length ≤ 2 ^ 20) (n n' : Nat) (hn : n = l.length) (hn' : n' = l.length) :
    Calls Try.prog 46 #[.slice A n c, .slice A' n' c'] w fun r w' => r = .returned (.bool true) ∧ Below w.heap.size w w' := by
  subst hn hn'
  have H := Lib.hid (h.more hB)
  have H' := Lib.hid (h'.more hB')
  clear h h' hB hB'
  go_enter Try.func46, Try.ntmps46
  go_wp2
  go_loopw [5] (fun i wr => ∃ k : Nat, i = .int .i64 k ∧ k ≤ l.length ∧ Below w.heap.size w wr) (fun i _ => l.length - (intOf i).toNat)
  case atStart => exact ⟨0, rfl, Nat.zero_le _, Below.refl _ _⟩
  case round =>
    obtain ⟨k, rfl, hk, hb⟩ := hrel
    have Hb := Lib.hid hb
    by_cases hlt : k < l.length
    · obtain ⟨g, o, rfl, z0, z1, z2⟩ := row_k3 (H.out.below hb) k hlt
      obtain ⟨g', o', rfl, y0, y1, y2⟩ := row_k3 (H'.out.below hb) k hlt
      have hkl : (k : Int) < (l.length : Int) := by omega
      clear hb
      generalize l[k] = x at *
      obtain ⟨x1, x2, x3⟩ := x
      simp only at z0 z1 z2 y0 y1 y2
      go_wp2
      go_quiet (fail)
      go_wp2
      go_roundw
      case measure => simp [intOf]; omega
      case rel => exact ⟨k + 1, by go_num, hlt, below_drewN Hb.out _⟩
    · have hkk : k = l.length := by omega
      subst hkk
      clear hb
      go_wp2
      go_ret
      exact ⟨rfl, Hb.out⟩

end Go.Proofs.Ytannngcdphafdaa
