/-
  The reference's Ints: two rows of the same numbers are alike.
-/
import Derived.RegionTactic
import Derived.ChangeAlike
import Derived.Test.YtfhikkmgclkcdaaAppInt
namespace Go.Proofs.Ytfhikkmgclkcdaa
open Go.RowKit

set_option maxHeartbeats 1000000 in
set_option maxRecDepth 100000 in
/-- two rows of the same numbers are alike -/
theorem ints_same (l : List Int) (hlen : l.length ≤ 1000) (v v' : Value) (B B' : Nat) (w : World) (h1 : OwnI w B v l) (h2 : OwnI w B' v' l) :
    Calls Try.prog 23 #[v, v'] w fun r w' => r = .returned (.bool true) ∧ Below w.heap.size w w' := by
  have H1 := Lib.hid h1
  have H2 := Lib.hid h2
  obtain ⟨A1, c1, rfl⟩ := h1.shape
  obtain ⟨A2, c2, rfl⟩ := h2.shape
  clear h1 h2
  go_enter Try.func23, Try.ntmps23
  go_wp2
  go_loopw [5] (fun i wr => ∃ k : Nat, k ≤ l.length ∧ i = .int .i64 k ∧ Below w.heap.size w wr) (fun i _ => l.length - (intOf i).toNat)
  case atStart => exact ⟨0, Nat.zero_le _, rfl, Below.refl _ _⟩
  case round =>
    obtain ⟨k, hk, rfl, hb⟩ := hrel
    by_cases hlt : k < l.length
    · obtain ⟨g, cp, e, _, _, x0⟩ := (H1.out.below hb).at_ k hlt
      obtain ⟨g', cp', e', _, _, y0⟩ := (H2.out.below hb).at_ k hlt
      simp only [Value.slice.injEq] at e e'
      obtain ⟨rfl, _, rfl⟩ := e
      obtain ⟨rfl, _, rfl⟩ := e'
      generalize l[k] = z at *
      have Hb := Lib.hid hb
      clear hb
      go_wp2_with fail
      go_region
      all_goals
        go_wp2
        go_roundw
        case measure => simp [intOf]; omega
        case rel => exact ⟨k + 1, hlt, by go_num, Hb.out.drew⟩
    · have Hb := Lib.hid hb
      clear hb
      go_wp2
      go_ret
      exact ⟨rfl, Hb.out⟩

end Go.Proofs.Ytfhikkmgclkcdaa
