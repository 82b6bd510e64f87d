/-
  Layer 21: the program's words of one vertex, one edge.
-/
import Derived.Test.YtpfjgecdlilkcaaSpTree
import Derived.Test.YtpfjgecdlilkcaaCmpTail
import Derived.Test.YtpfjgecdlilkcaaRegionP
namespace Go.Proofs.Ytpfjgecdlilkcaa
open Go.RowKit

set_option maxHeartbeats 2000000 in
set_option maxRecDepth 100000 in
theorem within_any (k i : Int) (w : World) {t : Bool} (ht : mayV ⟨k, i⟩ = t) : Calls Try.prog 50 #[.agg #[.int .i64 k, .int .i64 i]] w fun r w' => r = .returned (.bool t) ∧ Below w.heap.size w w' := by
  subst ht
  have Hb := Lib.hid ((Below.refl w.heap.size w).alloc (Nat.le_refl _) (.cells #[.int .i64 k, .int .i64 i] 40))
  have hk := Blk.new w 40 #[.int .i64 k, .int .i64 i]
  obtain ⟨w0, hW0⟩ : ∃ w0, w.alloc (.cells #[.int .i64 k, .int .i64 i] 40) = w0 := ⟨_, rfl⟩
  rw [hW0] at hk Hb
  obtain ⟨a0, a1, -, -⟩ := hk.cells2
  clear hk
  by_cases h1 : k = 1
  · subst h1
    by_cases h2 : 1 ≤ i
    · by_cases h3 : i ≤ 15
      · have Hr := Lib.hid (show mayV ⟨1, i⟩ = true by simp [mayV, h2, h3])
        go_enter Try.func50, Try.ntmps50
        go_wp2
        go_ret
        exact ⟨by rw [Hr.out]; rfl, Hb.out⟩
      · have Hr := Lib.hid (show mayV ⟨1, i⟩ = false by simp [mayV, h3])
        go_enter Try.func50, Try.ntmps50
        go_wp2
        go_ret
        exact ⟨by rw [Hr.out]; rfl, Hb.out⟩
    · have Hr := Lib.hid (show mayV ⟨1, i⟩ = false by simp [mayV, h2])
      go_enter Try.func50, Try.ntmps50
      go_wp2
      go_ret
      exact ⟨by rw [Hr.out]; rfl, Hb.out⟩
  · by_cases h2 : k = 2
    · subst h2
      by_cases h3 : 0 ≤ i
      · by_cases h4 : i ≤ 63
        · have Hr := Lib.hid (show mayV ⟨2, i⟩ = true by simp [mayV, h3, h4])
          go_enter Try.func50, Try.ntmps50
          go_wp2
          go_ret
          exact ⟨by rw [Hr.out]; rfl, Hb.out⟩
        · have Hr := Lib.hid (show mayV ⟨2, i⟩ = false by simp [mayV, h4])
          go_enter Try.func50, Try.ntmps50
          go_wp2
          go_ret
          exact ⟨by rw [Hr.out]; rfl, Hb.out⟩
      · have Hr := Lib.hid (show mayV ⟨2, i⟩ = false by simp [mayV, h3])
        go_enter Try.func50, Try.ntmps50
        go_wp2
        go_ret
        exact ⟨by rw [Hr.out]; rfl, Hb.out⟩
    · have Hr := Lib.hid (show mayV ⟨k, i⟩ = false by simp [mayV, h1, h2])
      go_enter Try.func50, Try.ntmps50
      go_wp2
      go_ret
      exact ⟨by rw [Hr.out]; rfl, Hb.out⟩
set_option maxHeartbeats 4000000 in
set_option maxRecDepth 100000 in
theorem counts_any (e1 e2 e3 e4 e5 : Int) (w : World) {t : Bool} (ht : cntE ⟨e1, e2, e3, e4, e5⟩ = t) : Calls Try.prog 51 #[.agg #[.int .i64 e1, .int .i64 e2, .int .i64 e3, .int .i64 e4, .int .i64 e5]] w fun r w' => r = .returned (.bool t) ∧ Below w.heap.size w w' := by
  subst ht
  have Hb := Lib.hid ((Below.refl w.heap.size w).alloc (Nat.le_refl _) (.cells #[.int .i64 e1, .int .i64 e2, .int .i64 e3, .int .i64 e4, .int .i64 e5] 42))
  have hk := Blk.new w 42 #[.int .i64 e1, .int .i64 e2, .int .i64 e3, .int .i64 e4, .int .i64 e5]
  obtain ⟨w0, hW0⟩ : ∃ w0, w.alloc (.cells #[.int .i64 e1, .int .i64 e2, .int .i64 e3, .int .i64 e4, .int .i64 e5] 42) = w0 := ⟨_, rfl⟩
  rw [hW0] at hk Hb
  have HK := Lib.hid hk
  obtain ⟨a0, a1, a2, a3, a4, -⟩ := hk.cells5
  clear hk
  obtain ⟨m1, hm1⟩ : ∃ m, mayV ⟨e1, e2⟩ = m := ⟨_, rfl⟩
  obtain ⟨m2, hm2⟩ : ∃ m, mayV ⟨e3, e4⟩ = m := ⟨_, rfl⟩
  have HM1 := Lib.hid (fun W => within_any e1 e2 W hm1)
  have HM2 := Lib.hid (fun W => within_any e3 e4 W hm2)
  have HE1 := Lib.hid (show m1 = true → e1 = 1 ∨ e1 = 2 from fun h => by
    rcases mayV_iff.1 (hm1.trans h) with ⟨g, -⟩ | ⟨g, -⟩
    · exact .inl g
    · exact .inr g)
  have HE2 := Lib.hid (show m2 = true → e3 = 1 ∨ e3 = 2 from fun h => by
    rcases mayV_iff.1 (hm2.trans h) with ⟨g, -⟩ | ⟨g, -⟩
    · exact .inl g
    · exact .inr g)
  have Hc := Lib.hid (show cntE ⟨e1, e2, e3, e4, e5⟩ = (m1 && m2 && ((decide (e1 = 1) && decide (e3 = 2) && decide (1 ≤ e5 ∧ e5 ≤ 100)) || (decide (e1 = 2) && decide (e3 = 1) && decide (e5 = 0)))) by rw [← hm1, ← hm2]; rfl)
  clear hm1 hm2
  go_enter Try.func51, Try.ntmps51
  go_wp2_with fail
  with_reducible refine Calls.mono (HM1.out _) ?_
  rintro r w1 ⟨rfl, hb1⟩
  have HB1 := Lib.hid (below_trans Hb.out Hb.out.size hb1)
  have HK1 := Lib.hid (HK.out.below hb1 HK.out.lt)
  clear a0 a1 a2 a3 a4 hb1
  obtain ⟨a0, a1, a2, a3, a4, -⟩ := HK1.out.cells5
  cases m1 with
  | false =>
    go_wp2
    go_ret
    exact ⟨by rw [Hc.out]; rfl, HB1.out⟩
  | true =>
    go_wp2_with fail
    with_reducible refine Calls.mono (HM2.out _) ?_
    rintro r w2 ⟨rfl, hb2⟩
    have HB2 := Lib.hid (below_trans HB1.out HB1.out.size hb2)
    have HK2 := Lib.hid (HK1.out.below hb2 HK1.out.lt)
    clear a0 a1 a2 a3 a4 hb2
    obtain ⟨a0, a1, a2, a3, a4, -⟩ := HK2.out.cells5
    cases m2 with
    | false =>
      go_wp2
      go_ret
      exact ⟨by rw [Hc.out]; rfl, HB2.out⟩
    | true =>
      rcases HE1.out (by trivial) with h1 | h1
      · subst h1
        rcases HE2.out (by trivial) with h2 | h2
        · subst h2
          have Hr := Lib.hid (Hc.out.trans (c := false) (by simp))
          go_wp2
          go_ret
          exact ⟨by rw [Hr.out]; rfl, HB2.out⟩
        · subst h2
          by_cases h3 : 1 ≤ e5
          · by_cases h4 : e5 ≤ 100
            · have Hr := Lib.hid (Hc.out.trans (c := true) (by simp [h3, h4]))
              go_wp2
              go_ret
              exact ⟨by rw [Hr.out]; rfl, HB2.out⟩
            · have Hr := Lib.hid (Hc.out.trans (c := false) (by simp [h4]))
              have hd4 : decide (e5 ≤ 100) = false := by simp [h4]
              go_wp2
              go_ret
              exact ⟨by rw [Hr.out]; rfl, HB2.out⟩
          · have Hr := Lib.hid (Hc.out.trans (c := false) (by simp [h3]))
            go_wp2
            go_ret
            exact ⟨by rw [Hr.out]; rfl, HB2.out⟩
      · subst h1
        rcases HE2.out (by trivial) with h2 | h2
        · subst h2
          by_cases h4 : e5 = 0
          · subst h4
            have Hr := Lib.hid (Hc.out.trans (c := true) (by simp))
            go_wp2
            go_ret
            exact ⟨by rw [Hr.out]; rfl, HB2.out⟩
          · have Hr := Lib.hid (Hc.out.trans (c := false) (by simp [h4]))
            have hd4 : (e5 == 0) = false := by simp [h4]
            go_wp2
            go_ret
            exact ⟨by rw [Hr.out]; rfl, HB2.out⟩
        · subst h2
          have Hr := Lib.hid (Hc.out.trans (c := false) (by simp))
          go_wp2
          go_ret
          exact ⟨by rw [Hr.out]; rfl, HB2.out⟩

end Go.Proofs.Ytpfjgecdlilkcaa
