/-
  Keys, and the reference's Newer.
-/
import Derived.Laws.StructEq
import Derived.Test.YtmjjmkdjjfmhhaaFlOrd
namespace Go.Proofs.Ytmjjmkdjjfmhhaa
open Go.RowKit Go.Sort

set_option maxHeartbeats 400000 in
theorem keyOf_any (a b c d e f g : Int) (w : World) : Calls Try.prog 20 #[.agg #[.int .i64 a, .int .i64 b, .int .i64 c, .int .i64 d, .int .i64 e, .int .i64 f, .int .i64 g]] w
    fun r w' => r = .returned (.agg #[.int .i64 b, .int .i64 c, .int .i64 d]) ∧ Below w.heap.size w w' := by
  go_enter Try.func20, Try.ntmps20
  go_wp2
  refine bodyPost_ret (v := .agg #[.int .i64 b, .int .i64 c, .int .i64 d]) (by simp [results, Try.results20, go_sem]) rfl ⟨rfl, ?_⟩
  exact ((Below.refl _ _).alloc (Nat.le_refl _) _).alloc (by simp) _
set_option maxHeartbeats 400000 in
theorem key_any (a b c d e f g : Int) (w : World) : Calls Try.prog 72 #[.agg #[.int .i64 a, .int .i64 b, .int .i64 c, .int .i64 d, .int .i64 e, .int .i64 f, .int .i64 g]] w
    fun r w' => r = .returned (.agg #[.int .i64 b, .int .i64 c, .int .i64 d]) ∧ Below w.heap.size w w' := by
  go_enter Try.func72, Try.ntmps72
  go_wp2
  refine bodyPost_ret (v := .agg #[.int .i64 b, .int .i64 c, .int .i64 d]) (by simp [results, Try.results72, go_sem]) rfl ⟨rfl, ?_⟩
  exact ((Below.refl _ _).alloc (Nat.le_refl _) _).alloc (by simp) _
theorem eqKey (a b c a' b' c' : Int) (w : World) : (Op.equalIn 10000 39 (.agg #[.int .i64 a, .int .i64 b, .int .i64 c]) (.agg #[.int .i64 a', .int .i64 b', .int .i64 c'])).run Try.prog w = .ok (a == a' && b == b' && c == c') w := by
  have hS : Try.prog.underlying 39 = some (.struct (Try.prog.fieldsOf 39)) := by kernel_rfl
  have hp : Try.prog.stoodInHeld 39 = false := by kernel_rfl
  rw [show (10000 : Nat) = 9999 + 1 from rfl, run_equalIn_struct w 9999 39 _ _ hS hp]
  simp only [Program.fieldsOf, Try.underlying39]
  go_simp
  by_cases h1 : a = a' <;> by_cases h2 : b = b' <;> by_cases h3 : c = c' <;> simp [h1, h2, h3]

theorem far_cases (a b : Int) : (¬a < b ∧ (decide (a < b) && decide (6 < b - a)) = false) ∨ (a < b ∧ 6 < b - a ∧ (decide (a < b) && decide (6 < b - a)) = true) ∨ (a < b ∧ ¬6 < b - a ∧ (decide (a < b) && decide (6 < b - a)) = false) := by
  by_cases h1 : a < b <;> by_cases h2 : 6 < b - a <;> simp [h1, h2]
set_option maxHeartbeats 400000 in
theorem far_any (a b : Int) (w : World) (ha : 0 ≤ a) (ha' : a ≤ 60) (hb : 0 ≤ b) (hb' : b ≤ 60) {x : Bool} (hx : (decide (a < b) && decide (6 < b - a)) = x) :
    Calls Try.prog 107 #[.int .i64 a, .int .i64 b] w fun r w' => r = .returned (.bool x) ∧ Below w.heap.size w w' := by
  subst hx
  rcases far_cases a b with ⟨h1, e⟩ | ⟨h1, h2, e⟩ | ⟨h1, h2, e⟩
  all_goals
    rw [e]
    clear e
    go_enter Try.func107, Try.ntmps107
    go_wp2
    go_ret
    exact ⟨rfl, Below.refl _ _⟩

end Go.Proofs.Ytmjjmkdjjfmhhaa

/-
  The reference's Newer.
-/
namespace Go.Proofs.Ytmjjmkdjjfmhhaa
open Go.RowKit Go.Sort

theorem young_eq (a b : Int) : orL [youngI a b] = if a < b ∧ 6 < b - a then 1 else if b < a ∧ 6 < a - b then -1 else 0 := by
  by_cases h1 : a < b ∧ 6 < b - a
  · have e : youngI a b = 1 := by
      unfold youngI cmpI
      rw [if_pos (.inr (by omega)), if_neg (by omega), if_pos (by omega)]
    rw [if_pos h1, e]; rfl
  · rw [if_neg h1]
    by_cases h2 : b < a ∧ 6 < a - b
    · have e : youngI a b = -1 := by
        unfold youngI cmpI
        rw [if_pos (.inl (by omega)), if_pos (by omega)]
      rw [if_pos h2, e]; rfl
    · have e : youngI a b = 0 := by
        unfold youngI
        rw [if_neg (by omega)]
      rw [if_neg h2, e]; rfl
theorem age_eq (a b : Int) : orL [cmpI (goneI a) (goneI b), youngI a b] = if a = 60 ∧ b ≠ 60 then 1 else if b = 60 ∧ a ≠ 60 then -1 else if a < b ∧ 6 < b - a then 1 else if b < a ∧ 6 < a - b then -1 else 0 := by
  by_cases ha : a = 60
  · by_cases hb : b = 60
    · have e : cmpI (goneI a) (goneI b) = 0 := by simp [goneI, ha, hb, cmpI]
      rw [if_neg (by omega), if_neg (by omega), e, ← young_eq a b]
      simp [orL]
    · have e : cmpI (goneI a) (goneI b) = 1 := by simp [goneI, ha, hb, cmpI]
      rw [if_pos ⟨ha, hb⟩, e]; rfl
  · by_cases hb : b = 60
    · have e : cmpI (goneI a) (goneI b) = -1 := by simp [goneI, ha, hb, cmpI]
      rw [if_neg (by omega), if_pos ⟨hb, ha⟩, e]; rfl
    · have e : cmpI (goneI a) (goneI b) = 0 := by simp [goneI, ha, hb, cmpI]
      rw [if_neg (by omega), if_neg (by omega), e, ← young_eq a b]
      simp [orL]
theorem cmp_or (a b : Int) (l : List Int) : orL (cmpI a b :: l) = if a = b then orL l else if b < a then 1 else -1 := by
  rcases cmpI_cases a b with ⟨h1, e⟩ | ⟨h1, h2, e⟩ | ⟨h1, h2, e⟩
  · rw [e, if_neg (by omega), if_neg (by omega)]; rfl
  · rw [e, if_neg (by omega), if_pos h2]; rfl
  · rw [e, if_pos (by omega)]; simp [orL]
theorem newerI_eq (a b : Hd) : newerI a b = if a.seq = b.seq then (if a.sum = b.sum then (if a.age = 60 ∧ b.age ≠ 60 then 1 else if b.age = 60 ∧ a.age ≠ 60 then -1 else if a.age < b.age ∧ 6 < b.age - a.age then 1 else if b.age < a.age ∧ 6 < a.age - b.age then -1 else 0)
    else if b.sum < a.sum then 1 else -1) else if b.seq < a.seq then 1 else -1 := by
  unfold newerI
  rw [cmp_or, cmp_or, age_eq]

set_option maxHeartbeats 4000000 in
set_option maxRecDepth 100000 in
theorem refNewer_any (a1 a2 a3 a4 a5 a6 a7 b1 b2 b3 b4 b5 b6 b7 : Int) (w : World) (ha : 0 ≤ a1) (ha' : a1 ≤ 60) (hb : 0 ≤ b1) (hb' : b1 ≤ 60) {x : Int} (hx : newerI ⟨a1, a2, a3, a4, a5, a6, a7⟩ ⟨b1, b2, b3, b4, b5, b6, b7⟩ = x) :
    Calls Try.prog 73 #[.agg #[.int .i64 a1, .int .i64 a2, .int .i64 a3, .int .i64 a4, .int .i64 a5, .int .i64 a6, .int .i64 a7], .agg #[.int .i64 b1, .int .i64 b2, .int .i64 b3, .int .i64 b4, .int .i64 b5, .int .i64 b6, .int .i64 b7]] w
      fun r w' => r = .returned (.int .i64 x) ∧ Below w.heap.size w w' := by
  rw [newerI_eq] at hx
  simp only at hx
  have hb0 : Below w.heap.size w ((w.alloc (.cells #[.int .i64 a1, .int .i64 a2, .int .i64 a3, .int .i64 a4, .int .i64 a5, .int .i64 a6, .int .i64 a7] 23)).alloc (.cells #[.int .i64 b1, .int .i64 b2, .int .i64 b3, .int .i64 b4, .int .i64 b5, .int .i64 b6, .int .i64 b7] 23)) := ((Below.refl w.heap.size w).alloc (Nat.le_refl _) _).alloc (by simp) _
  have Hb0 := Lib.hid hb0
  clear hb0
  have HA := Lib.hid ((Blk.new w 23 #[.int .i64 a1, .int .i64 a2, .int .i64 a3, .int .i64 a4, .int .i64 a5, .int .i64 a6, .int .i64 a7]).alloc (.cells #[.int .i64 b1, .int .i64 b2, .int .i64 b3, .int .i64 b4, .int .i64 b5, .int .i64 b6, .int .i64 b7] 23))
  have HB := Lib.hid (Blk.size (w := w.alloc (.cells #[.int .i64 a1, .int .i64 a2, .int .i64 a3, .int .i64 a4, .int .i64 a5, .int .i64 a6, .int .i64 a7] 23)) (g := w.heap.size + 1) (t := 23) (cs := #[.int .i64 b1, .int .i64 b2, .int .i64 b3, .int .i64 b4, .int .i64 b5, .int .i64 b6, .int .i64 b7]) (by simp))
  by_cases h5 : a5 = b5
  · rw [if_pos h5] at hx
    subst h5
    by_cases h6 : a6 = b6
    · rw [if_pos h6] at hx
      subst h6
      by_cases hA : a1 = 60
      · have tA : (a1 == 60) = true := by simp [hA]
        have tA' : (a1 != 60) = false := by simp [hA]
        by_cases hB : b1 = 60
        · have tB : (b1 == 60) = true := by simp [hB]
          have tB' : (b1 != 60) = false := by simp [hB]
          rw [if_neg (by omega), if_neg (by omega), if_neg (by omega), if_neg (by omega)] at hx
          subst hx
          have F1 := Lib.hid (show (decide (a1 < b1) && decide (6 < b1 - a1)) = false from (by simp only [Bool.and_eq_false_iff, decide_eq_false_iff_not]; omega))
          have F2 := Lib.hid (show (decide (b1 < a1) && decide (6 < a1 - b1)) = false from (by simp only [Bool.and_eq_false_iff, decide_eq_false_iff_not]; omega))
          (try clear hA); (try clear hB); (try clear f1); (try clear f2)
          go_enter Try.func73, Try.ntmps73
          go_wp2_with (first
            | (have _ := Hb1.out; go_at_call 107; (with_reducible refine Calls.mono (far_any _ _ _ hb hb' ha ha' F2.out) ?_); rintro r w2 ⟨rfl, hb2⟩; have Hb2 := Lib.hid (Hb1.out.trans (hb2.mono Hb1.out.size)); clear hb2)
            | (go_at_call 107; (with_reducible refine Calls.mono (far_any _ _ _ ha ha' hb hb' F1.out) ?_); rintro r w1 ⟨rfl, hb1⟩; have Hb1 := Lib.hid (Hb0.out.trans (hb1.mono Hb0.out.size)); have ea : w1.cell? ⟨w.heap.size, 0, none⟩ = some (.int .i64 a1) := (HA.out.below hb1 HA.out.lt).cell 0; have eb : w1.cell? ⟨w.heap.size + 1, 0, none⟩ = some (.int .i64 b1) := (HB.out.below hb1 HB.out.lt).cell 0; clear hb1))
          go_ret
          exact ⟨rfl, Hb2.out⟩
        · have tB : (b1 == 60) = false := by simp [hB]
          have tB' : (b1 != 60) = true := by simp [hB]
          rw [if_pos ⟨hA, hB⟩] at hx
          subst hx
          (try clear hA); (try clear hB); (try clear f1); (try clear f2)
          go_enter Try.func73, Try.ntmps73
          go_wp2
          go_ret
          exact ⟨rfl, Hb0.out⟩
      · have tA : (a1 == 60) = false := by simp [hA]
        have tA' : (a1 != 60) = true := by simp [hA]
        by_cases hB : b1 = 60
        · have tB : (b1 == 60) = true := by simp [hB]
          have tB' : (b1 != 60) = false := by simp [hB]
          rw [if_neg (by omega), if_pos ⟨hB, hA⟩] at hx
          subst hx
          (try clear hA); (try clear hB); (try clear f1); (try clear f2)
          go_enter Try.func73, Try.ntmps73
          go_wp2
          go_ret
          exact ⟨rfl, Hb0.out⟩
        · have tB : (b1 == 60) = false := by simp [hB]
          have tB' : (b1 != 60) = true := by simp [hB]
          rw [if_neg (by omega), if_neg (by omega)] at hx
          by_cases f1 : a1 < b1 ∧ 6 < b1 - a1
          · rw [if_pos f1] at hx; subst hx
            have F1 := Lib.hid (show (decide (a1 < b1) && decide (6 < b1 - a1)) = true from (by simp only [Bool.and_eq_true, decide_eq_true_eq]; omega))
            have F2 := Lib.hid (show (decide (b1 < a1) && decide (6 < a1 - b1)) = false from (by simp only [Bool.and_eq_false_iff, decide_eq_false_iff_not]; omega))
            (try clear hA); (try clear hB); (try clear f1); (try clear f2)
            go_enter Try.func73, Try.ntmps73
            go_wp2_with (first
              | (have _ := Hb1.out; go_at_call 107; (with_reducible refine Calls.mono (far_any _ _ _ hb hb' ha ha' F2.out) ?_); rintro r w2 ⟨rfl, hb2⟩; have Hb2 := Lib.hid (Hb1.out.trans (hb2.mono Hb1.out.size)); clear hb2)
              | (go_at_call 107; (with_reducible refine Calls.mono (far_any _ _ _ ha ha' hb hb' F1.out) ?_); rintro r w1 ⟨rfl, hb1⟩; have Hb1 := Lib.hid (Hb0.out.trans (hb1.mono Hb0.out.size)); have ea : w1.cell? ⟨w.heap.size, 0, none⟩ = some (.int .i64 a1) := (HA.out.below hb1 HA.out.lt).cell 0; have eb : w1.cell? ⟨w.heap.size + 1, 0, none⟩ = some (.int .i64 b1) := (HB.out.below hb1 HB.out.lt).cell 0; clear hb1))
            go_ret
            exact ⟨rfl, Hb1.out⟩
          · rw [if_neg f1] at hx
            by_cases f2 : b1 < a1 ∧ 6 < a1 - b1
            · rw [if_pos f2] at hx; subst hx
              have F1 := Lib.hid (show (decide (a1 < b1) && decide (6 < b1 - a1)) = false from (by simp only [Bool.and_eq_false_iff, decide_eq_false_iff_not]; omega))
              have F2 := Lib.hid (show (decide (b1 < a1) && decide (6 < a1 - b1)) = true from (by simp only [Bool.and_eq_true, decide_eq_true_eq]; omega))
              (try clear hA); (try clear hB); (try clear f1); (try clear f2)
              go_enter Try.func73, Try.ntmps73
              go_wp2_with (first
                | (have _ := Hb1.out; go_at_call 107; (with_reducible refine Calls.mono (far_any _ _ _ hb hb' ha ha' F2.out) ?_); rintro r w2 ⟨rfl, hb2⟩; have Hb2 := Lib.hid (Hb1.out.trans (hb2.mono Hb1.out.size)); clear hb2)
                | (go_at_call 107; (with_reducible refine Calls.mono (far_any _ _ _ ha ha' hb hb' F1.out) ?_); rintro r w1 ⟨rfl, hb1⟩; have Hb1 := Lib.hid (Hb0.out.trans (hb1.mono Hb0.out.size)); have ea : w1.cell? ⟨w.heap.size, 0, none⟩ = some (.int .i64 a1) := (HA.out.below hb1 HA.out.lt).cell 0; have eb : w1.cell? ⟨w.heap.size + 1, 0, none⟩ = some (.int .i64 b1) := (HB.out.below hb1 HB.out.lt).cell 0; clear hb1))
              go_ret
              exact ⟨rfl, Hb2.out⟩
            · rw [if_neg f2] at hx; subst hx
              have F1 := Lib.hid (show (decide (a1 < b1) && decide (6 < b1 - a1)) = false from (by simp only [Bool.and_eq_false_iff, decide_eq_false_iff_not]; omega))
              have F2 := Lib.hid (show (decide (b1 < a1) && decide (6 < a1 - b1)) = false from (by simp only [Bool.and_eq_false_iff, decide_eq_false_iff_not]; omega))
              (try clear hA); (try clear hB); (try clear f1); (try clear f2)
              go_enter Try.func73, Try.ntmps73
              go_wp2_with (first
                | (have _ := Hb1.out; go_at_call 107; (with_reducible refine Calls.mono (far_any _ _ _ hb hb' ha ha' F2.out) ?_); rintro r w2 ⟨rfl, hb2⟩; have Hb2 := Lib.hid (Hb1.out.trans (hb2.mono Hb1.out.size)); clear hb2)
                | (go_at_call 107; (with_reducible refine Calls.mono (far_any _ _ _ ha ha' hb hb' F1.out) ?_); rintro r w1 ⟨rfl, hb1⟩; have Hb1 := Lib.hid (Hb0.out.trans (hb1.mono Hb0.out.size)); have ea : w1.cell? ⟨w.heap.size, 0, none⟩ = some (.int .i64 a1) := (HA.out.below hb1 HA.out.lt).cell 0; have eb : w1.cell? ⟨w.heap.size + 1, 0, none⟩ = some (.int .i64 b1) := (HB.out.below hb1 HB.out.lt).cell 0; clear hb1))
              go_ret
              exact ⟨rfl, Hb2.out⟩
    · rw [if_neg h6] at hx
      have t6 : (a6 != b6) = true := by simp [h6]
      by_cases g6 : b6 < a6
      · rw [if_pos g6] at hx; subst hx
        (try clear hA); (try clear hB); (try clear f1); (try clear f2)
        go_enter Try.func73, Try.ntmps73
        go_wp2
        go_ret
        exact ⟨rfl, Hb0.out⟩
      · rw [if_neg g6] at hx; subst hx
        (try clear hA); (try clear hB); (try clear f1); (try clear f2)
        go_enter Try.func73, Try.ntmps73
        go_wp2
        go_ret
        exact ⟨rfl, Hb0.out⟩
  · rw [if_neg h5] at hx
    have t5 : (a5 != b5) = true := by simp [h5]
    by_cases g5 : b5 < a5
    · rw [if_pos g5] at hx; subst hx
      (try clear hA); (try clear hB); (try clear f1); (try clear f2)
      go_enter Try.func73, Try.ntmps73
      go_wp2
      go_ret
      exact ⟨rfl, Hb0.out⟩
    · rw [if_neg g5] at hx; subst hx
      (try clear hA); (try clear hB); (try clear f1); (try clear f2)
      go_enter Try.func73, Try.ntmps73
      go_wp2
      go_ret
      exact ⟨rfl, Hb0.out⟩

end Go.Proofs.Ytmjjmkdjjfmhhaa
