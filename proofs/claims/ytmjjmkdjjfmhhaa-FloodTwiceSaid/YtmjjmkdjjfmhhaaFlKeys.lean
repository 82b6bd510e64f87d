/-
  Keys, and the reference's Newer.
-/
import Derived.Laws.StructEq
import Derived.Test.YtmjjmkdjjfmhhaaFlNewer
namespace Go.Proofs.Ytmjjmkdjjfmhhaa
open Go.RowKit Go.Sort

set_option maxHeartbeats 400000 in
theorem keyOf_any (a b c d e f g : Int) (w : World) : Calls Try.prog 20 #[.agg #[.int .i64 a, .int .i64 b, .int .i64 c, .int .i64 d, .int .i64 e, .int .i64 f, .int .i64 g]] w
    fun r w' => r = .returned (.agg #[.int .i64 b, .int .i64 c, .int .i64 d]) ∧ Below w.heap.size w w' := by
  go_enter Try.func20, Try.ntmps20
  go_wp2
  refine bodyPost_ret (v := .agg #[.int .i64 b, .int .i64 c, .int .i64 d]) (by simp [results, Try.results20, go_sem]) rfl ⟨rfl, ?_⟩
  exact ((Below.refl _ _).alloc (Nat.le_refl _) _).alloc (by simp) _
set_option maxHeartbeats 400000 in
theorem key_any (a b c d e f g : Int) (w : World) : Calls Try.prog 72 #[.agg #[.int .i64 a, .int .i64 b, .int .i64 c, .int .i64 d, .int .i64 e, .int .i64 f, .int .i64 g]] w
    fun r w' => r = .returned (.agg #[.int .i64 b, .int .i64 c, .int .i64 d]) ∧ Below w.heap.size w w' := by
  go_enter Try.func72, Try.ntmps72
  go_wp2
  refine bodyPost_ret (v := .agg #[.int .i64 b, .int .i64 c, .int .i64 d]) (by simp [results, Try.results72, go_sem]) rfl ⟨rfl, ?_⟩
  exact ((Below.refl _ _).alloc (Nat.le_refl _) _).alloc (by simp) _
theorem eqKey (a b c a' b' c' : Int) (w : World) : (Op.equalIn 10000 39 (.agg #[.int .i64 a, .int .i64 b, .int .i64 c]) (.agg #[.int .i64 a', .int .i64 b', .int .i64 c'])).run Try.prog w = .ok (a == a' && b == b' && c == c') w := by
  have hS : Try.prog.underlying 39 = some (.struct (Try.prog.fieldsOf 39)) := by kernel_rfl
  have hp : Try.prog.stoodInHeld 39 = false := by kernel_rfl
  rw [show (10000 : Nat) = 9999 + 1 from rfl, run_equalIn_struct w 9999 39 _ _ hS hp]
  simp only [Program.fieldsOf, Try.underlying39]
  go_simp
  by_cases h1 : a = a' <;> by_cases h2 : b = b' <;> by_cases h3 : c = c' <;> simp [h1, h2, h3]

theorem far_cases (a b : Int) : (¬a < b ∧ (decide (a < b) && decide (6 < b - a)) = false) ∨ (a < b ∧ 6 < b - a ∧ (decide (a < b) && decide (6 < b - a)) = true) ∨ (a < b ∧ ¬6 < b - a ∧ (decide (a < b) && decide (6 < b - a)) = false) := by
  by_cases h1 : a < b <;> by_cases h2 : 6 < b - a <;> simp [h1, h2]
set_option maxHeartbeats 400000 in
theorem far_any (a b : Int) (w : World) (ha : 0 ≤ a) (ha' : a ≤ 60) (hb : 0 ≤ b) (hb' : b ≤ 60) {x : Bool} (hx : (decide (a < b) && decide (6 < b - a)) = x) :
    Calls Try.prog 107 #[.int .i64 a, .int .i64 b] w fun r w' => r = .returned (.bool x) ∧ Below w.heap.size w w' := by
  subst hx
  rcases far_cases a b with ⟨h1, e⟩ | ⟨h1, h2, e⟩ | ⟨h1, h2, e⟩
  all_goals
    rw [e]
    clear e
    go_enter Try.func107, Try.ntmps107
    go_wp2
    go_ret
    exact ⟨rfl, Below.refl _ _⟩

end Go.Proofs.Ytmjjmkdjjfmhhaa
