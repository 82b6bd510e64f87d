/-
  Keys in order: what the document asks of them.
-/
import Derived.Test.YtpnbibokddhheaaKyPlain
import Derived.Test.YtpnbibokddhheaaGrown
namespace Go.Proofs.Ytpnbibokddhheaa
open Go.RowKit

theorem less_cases (a1 a2 a3 b1 b2 b3 : Int) : (¬a1 = b1 ∧ less3 a1 a2 a3 b1 b2 b3 = decide (a1 < b1)) ∨ (a1 = b1 ∧ ¬a2 = b2 ∧ less3 a1 a2 a3 b1 b2 b3 = decide (a2 < b2)) ∨ (a1 = b1 ∧ a2 = b2 ∧ less3 a1 a2 a3 b1 b2 b3 = decide (a3 < b3)) := by
  unfold less3
  by_cases h1 : a1 = b1
  · by_cases h2 : a2 = b2
    · right; right; simp [h1, h2]
    · right; left; simp [h1, h2]
  · left; simp [h1]
set_option maxHeartbeats 1000000 in
theorem Less07 (a1 a2 a3 b1 b2 b3 : Int) (w : World) {z : Bool} (hz : lessK ⟨a1, a2, a3⟩ ⟨b1, b2, b3⟩ = z) :
    Calls Try.prog 48 #[.agg #[.int .i64 a1, .int .i64 a2, .int .i64 a3], .agg #[.int .i64 b1, .int .i64 b2, .int .i64 b3]] w fun r w' => r = .returned (.bool z) ∧ Below w.heap.size w w' := by
  have Hb := Lib.hid (fun o q => ((Below.refl w.heap.size w).alloc (Nat.le_refl _) o).alloc (by simp) q)
  have hz : less3 a1 a2 a3 b1 b2 b3 = z := hz
  rcases less_cases a1 a2 a3 b1 b2 b3 with ⟨h, e⟩ | ⟨rfl, h, e⟩ | ⟨rfl, rfl, e⟩
  all_goals
    rw [e] at hz
    subst hz
    clear e
    go_enter Try.func48, Try.ntmps48
    go_wp2
    go_ret
    exact ⟨rfl, Hb.out _ _⟩

end Go.Proofs.Ytpnbibokddhheaa
