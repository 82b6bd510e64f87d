/-
  Ages as floats: which are more than six apart.
-/
import Derived.Test.YtbffhdlfplgccaaProg
import Derived.WalkLawsBesides
namespace Go.Proofs.Ytbffhdlfplgccaa
open Go.RowKit

def sixB (a b : Nat) : Bool := match floatBits .sub .f64 (floatOfInt .f64 (a : Int)) (floatOfInt .f64 (b : Int)) with
  | some r => (FloatKind.f64.format.order r 4618441417868443648 == some .gt) == decide (b + 6 < a) && (FloatKind.f64.format.order r 13841813454723219456 == some .lt) == decide (a + 6 < b)
  | none => false
theorem six_all : ((List.range 61).all fun a => (List.range 61).all fun b => sixB a b) = true := by kernel_rfl
theorem six {a b : Int} (ha : 0 ≤ a) (ha' : a ≤ 60) (hb : 0 ≤ b) (hb' : b ≤ 60) : ∃ r, floatBits .sub .f64 (floatOfInt .f64 a) (floatOfInt .f64 b) = some r ∧
    (FloatKind.f64.format.order r 4618441417868443648 == some .gt) = decide (b + 6 < a) ∧ (FloatKind.f64.format.order r 13841813454723219456 == some .lt) = decide (a + 6 < b) := by
  obtain ⟨m, rfl⟩ := Int.eq_ofNat_of_zero_le ha
  obtain ⟨n, rfl⟩ := Int.eq_ofNat_of_zero_le hb
  have h := List.all_eq_true.1 (List.all_eq_true.1 six_all m (List.mem_range.2 (by omega))) n (List.mem_range.2 (by omega))
  unfold sixB at h
  split at h
  · rename_i r hr
    simp only [Bool.and_eq_true, beq_iff_eq] at h
    refine ⟨r, hr, h.1.trans (decide_eq_decide.2 (by omega)), h.2.trans (decide_eq_decide.2 (by omega))⟩
  · cases h

end Go.Proofs.Ytbffhdlfplgccaa
