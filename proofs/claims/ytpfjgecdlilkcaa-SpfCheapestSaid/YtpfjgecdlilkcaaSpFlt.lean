/-
  Layer 21: floats that are whole numbers: compared, the lesser one; sums of complex ones.
-/
import Derived.Test.YtpfjgecdlilkcaaFltExact
import Derived.Test.YtpfjgecdlilkcaaCmpTail
import Derived.Laws.ComplexArith
namespace Go.Proofs.Ytpfjgecdlilkcaa
open Go.RowKit Go.Sort Go.Proofs

theorem cplxAdd (T : TypeId) (a b c d : Nat) (h1 : a + c < 2 ^ 53) (h2 : b + d < 2 ^ 53) (w : World) : (binOp .add T (.complex .f64 (flt a) (flt b)) (.complex .f64 (flt c) (flt d))).run Try.prog w = .ok (.complex .f64 (flt (a + c)) (flt (b + d))) w := by
  refine run_complex_sum w .add (.inl rfl) T .f64 _ _ _ _ _ _ ?_
  unfold cSumBits
  rw [flt_add _ _ h1, flt_add _ _ h2]
  rfl
theorem flt_zero0 : flt 0 = 0 := by rw [flt_eq 0 (by omega)]; rfl
theorem fltInt (b : Nat) (n : Int) (h : floatToIntVal .f64 b .i64 = some n) (w : World) : (convert 111 3 (.float .f64 b)).run Try.prog w = .ok (.int .i64 n) w :=
  run_convert_float_int w 111 3 .f64 .i64 b n (by rw [Try.underlying111]; rfl) Try.underlying3 h
theorem fltOrder (a b : Nat) (ha : a < 2 ^ 53) (hb : b < 2 ^ 53) : FloatKind.f64.format.order (flt a) (flt b) = some (compare a b) := flt_order a b ha hb
theorem minFlt_run (a b : Nat) (ha : a < 2 ^ 53) (hb : b < 2 ^ 53) (ts : Array TypeId) (t : TypeId) (w : World) : (Builtin.min_ ts t #[.float .f64 (flt a), .float .f64 (flt b)]).run Try.prog w = .ok (.float .f64 (flt (min a b))) w := by
  unfold Builtin.min_
  simp only [List.foldlM_cons, List.foldlM_nil, Builtin.min2]
  rw [fltOrder a b ha hb]
  rcases Nat.lt_trichotomy a b with h | h | h
  · have hc : compare a b = .lt := Nat.compare_eq_lt.2 h
    simp [hc, Nat.min_eq_left (Nat.le_of_lt h)]
  · subst h
    have hc : compare a a = .eq := Nat.compare_eq_eq.2 rfl
    simp
  · have hc : compare a b = .gt := Nat.compare_eq_gt.2 h
    simp [hc, Nat.min_eq_right (Nat.le_of_lt h)]
set_option maxHeartbeats 400000 in
theorem isNaNF_s (a : Nat) (ha : a < 2 ^ 53) (w : World) : Calls Try.prog 116 #[.float .f64 (flt a)] w fun r w' => r = .returned (.bool false) ∧ w = w' := by
  have ho : FloatKind.f64.format.order (flt a) (flt a) = some .eq := by
    rw [fltOrder a a ha ha, Nat.compare_eq_eq.2 rfl]
  generalize flt a = x at *
  go_enter Try.func116, Try.ntmps116
  go_wp2
  go_ret
  exact ⟨rfl, rfl⟩
set_option maxHeartbeats 1000000 in
theorem cmpF_s (a b : Nat) (ha : a < 2 ^ 53) (hb : b < 2 ^ 53) (w : World) : Calls Try.prog 95 #[.float .f64 (flt a), .float .f64 (flt b)] w fun r w' => r = .returned (.int .i64 (cmpI a b)) ∧ w = w' := by
  have HA := Lib.hid (fun w => isNaNF_s a ha w)
  have HB := Lib.hid (fun w => isNaNF_s b hb w)
  have hc : ∃ c, FloatKind.f64.format.order (flt a) (flt b) = some c ∧ ((c = .lt ∧ cmpI a b = -1) ∨ (c = .eq ∧ cmpI a b = 0) ∨ (c = .gt ∧ cmpI a b = 1)) := by
    refine ⟨_, fltOrder a b ha hb, ?_⟩
    rcases Nat.lt_trichotomy a b with h | h | h
    · exact .inl ⟨Nat.compare_eq_lt.2 h, by unfold cmpI; simp; omega⟩
    · exact .inr (.inl ⟨Nat.compare_eq_eq.2 h, by unfold cmpI; simp; omega⟩)
    · exact .inr (.inr ⟨Nat.compare_eq_gt.2 h, by unfold cmpI; simp; omega⟩)
  obtain ⟨c, ho, hc⟩ := hc
  generalize flt a = x at *
  generalize flt b = y at *
  rcases hc with ⟨rfl, e⟩ | ⟨rfl, e⟩ | ⟨rfl, e⟩
  all_goals
    rw [e]
    clear e
    go_enter Try.func95, Try.ntmps95
    go_wp2_with fail
    with_reducible refine Calls.mono (HA.out _) ?_
    rintro r w2 ⟨rfl, rfl⟩
    go_wp2_with fail
    with_reducible refine Calls.mono (HB.out _) ?_
    rintro r w2 ⟨rfl, rfl⟩
    go_wp2
    go_ret
    exact ⟨rfl, rfl⟩

end Go.Proofs.Ytpfjgecdlilkcaa
