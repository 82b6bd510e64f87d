/-
  The law IfaceSteps: its walk.
-/
import Derived.BigRegion
import Derived.Lib.QuietBelow
import Derived.Test.YtkaeedffhmlomaaLawIfaceAgain
import Derived.Test.YtkaeedffhmlomaaIfRefStep
namespace Go.Proofs.Ytkaeedffhmlomaa
open Go.RowKit Go.Sort

theorem refStep_n {a b c d e ev : Int} {n : Nat} {A : Option Addr} {cap : Nat} {l : List Cand} {w : World} {B : Nat} (hl : CandsAt w B A l) (hB : B ≤ w.heap.size) (hn : l.length ≤ 2 ^ 30) (hnl : n = l.length)
    {a' b' c' d' e' : Int} (hx : refStepI ⟨a, b, c, d, e⟩ ev l = ⟨a', b', c', d', e'⟩) :
    Calls Try.prog 25 #[.agg #[.int .i64 a, .int .i64 b, .int .i64 c, .int .i64 d, .int .i64 e], .int .i64 ev, .slice A n cap] w
      fun r w' => r = .returned (.agg #[.int .i64 a', .int .i64 b', .int .i64 c', .int .i64 d', .int .i64 e']) ∧ Below w.heap.size w w' := by
  subst hnl; exact refStep_any a b c d e ev A cap l w B hl hB hn hx
theorem own_v (a b c d e : Int) (w : World) : Calls Try.prog 26 #[.agg #[.int .i64 a, .int .i64 b, .int .i64 c, .int .i64 d, .int .i64 e]] w
    fun r w' => r = .returned (.agg #[.int .i64 a, .int .i64 b, .int .i64 d, .int .i64 e]) ∧ Below w.heap.size w w' := own_any a b c d e w

theorem stepsR0 {w : World} {a b c d e : Int} {t : TypeId} {w1 : World} (hb1 : Below (w.alloc (.cells #[.int .i64 a, .int .i64 b, .int .i64 c, .int .i64 d, .int .i64 e] t)).heap.size (w.alloc (.cells #[.int .i64 a, .int .i64 b, .int .i64 c, .int .i64 d, .int .i64 e] t)) w1) :
    Blk w1 w.heap.size t #[.int .i64 a, .int .i64 b, .int .i64 c, .int .i64 d, .int .i64 e] ∧ Below w.heap.size w w1 :=
  ⟨(Blk.new w _ _).below hb1 (by simp), ((Below.refl _ _).alloc (Nat.le_refl _) _).trans (hb1.mono (by simp))⟩

theorem stepsR1 {w w2 w3 : World} {g : Nat} {t : TypeId} {cs : Array Value} {B : Nat} {A : Option Addr} {l : List Cand} (hB : Blk w2 g t cs) (hL : CandsAt w2 B A l) (hb : Below B w w2) (hb3 : Below w2.heap.size w2 w3) (xs : Array Value) (hBw : B ≤ w.heap.size := by exact Nat.le_refl _) :
    ∃ w4 gx, w3.heap.size = gx ∧ w3.alloc (.cells xs 41) = w4 ∧ Blk w4 g t cs ∧ Blk w4 gx 41 xs ∧ Below B w w4 ∧ CandsAt w4 B A l ∧ w2.heap.size ≤ gx := by
  have h1 : B ≤ w2.heap.size := Nat.le_trans hBw hb.size
  have h3 : Below B w2 (w3.alloc (.cells xs 41)) := (hb3.mono h1).alloc (Nat.le_trans h1 hb3.size) _
  exact ⟨_, _, rfl, rfl, (hB.below hb3 hB.lt).alloc _, Blk.new _ _ _, hb.trans h3, CandsAt.below hL h3, hb3.size⟩
theorem stepsR2 {w w4 w5 : World} {g gx : Nat} {t t' : TypeId} {cs xs : Array Value} {B : Nat} (hB : Blk w4 g t cs) (hX : Blk w4 gx t' xs) (hb : Below B w w4) (hb5 : Below w4.heap.size w4 w5) (ys : Array Value) (hBw : B ≤ w.heap.size := by exact Nat.le_refl _) :
    ∃ w6 gy, w5.heap.size = gy ∧ w5.alloc (.cells ys 41) = w6 ∧ Blk w6 g t cs ∧ Blk w6 gx t' xs ∧ Blk w6 gy 41 ys ∧ Below B w w6 := by
  have h1 : B ≤ w4.heap.size := Nat.le_trans hBw hb.size
  exact ⟨_, _, rfl, rfl, (hB.below hb5 hB.lt).alloc _, (hX.below hb5 hX.lt).alloc _, Blk.new _ _ _, hb.trans ((hb5.mono h1).alloc (Nat.le_trans h1 hb5.size) _)⟩

set_option maxHeartbeats 8000000 in
set_option maxRecDepth 100000 in
theorem ifaceSteps_any (a b c d e ev : Int) (A : Option Addr) (cap : Nat) (l : List Cand) (w : World) (hl : CandsAt w w.heap.size A l) (hm : l.length ≤ maxLen) :
    Calls Try.prog 8 #[.agg #[.int .i64 a, .int .i64 b, .int .i64 c, .int .i64 d, .int .i64 e], .int .i64 ev, .slice A l.length cap] w fun r w' => r = .returned (.bool true) ∧ Below w.heap.size w w' := by
  unfold maxLen at hm
  have hl1 : ∀ o, CandsAt (w.alloc o) w.heap.size A l := fun o => CandsAt.below hl ((Below.refl _ _).alloc (Nat.le_refl _) o)
  have Hl := Lib.hid hl1
  clear hl hl1
  by_cases h20 : 20 < l.length
  · go_enter Try.func8, Try.ntmps8
    go_wp2_with (go_at_call 22; (with_reducible refine Calls.mono (wakes10 _) ?_); rintro r w1 ⟨rfl, hb1⟩; have Hb := Lib.hid (stepsR0 hb1).2; clear hb1)
    go_ret
    exact ⟨rfl, Hb.out⟩
  · have hn : l.length ≤ 2 ^ 30 := by omega
    have Hn := Lib.hid hn
    clear hn
    cases hap : apartI ⟨a, b, c, d, e⟩ l
    · have Hap := Lib.hid hap
      clear hap
      go_enter Try.func8, Try.ntmps8
      go_wp2_with (first
        | (go_at_call 22; (with_reducible refine Calls.mono (wakes10 _) ?_); rintro r w1 ⟨rfl, hb1⟩; obtain ⟨c0, c1, c2, c3, c4, _⟩ := Blk.cells5 (stepsR0 hb1).1; have Hb := Lib.hid (stepsR0 hb1).2; have HL := Lib.hid (CandsAt.below (Hl.out _) (hb1.mono (by simp))); clear hb1)
        | (go_at_call 23; (with_reducible refine Calls.mono (apart10_v HL.out Hb.out.size Hn.out Hap.out) ?_); rintro r w2 ⟨rfl, hb2⟩))
      go_ret
      exact ⟨rfl, Hb.out.trans (hb2.mono Hb.out.size)⟩
    · have h2 := refStep_eq hap ev
      rcases hx : stepI ⟨a, b, c, d, e⟩ ev l with ⟨a', b', c', d', e'⟩
      rw [hx] at h2
      obtain ⟨u, hu⟩ : ∃ u, unlike ⟨a', b', c', d', e'⟩ ⟨a, b, c, d, e⟩ = u := ⟨_, rfl⟩
      have hE1 : ∀ w, (Op.equalIn 10000 41 (.agg #[.int .i64 a', .int .i64 b', .int .i64 c', .int .i64 d', .int .i64 e']) (.agg #[.int .i64 a', .int .i64 b', .int .i64 c', .int .i64 d', .int .i64 e'])).run Try.prog w = .ok true w := fun w => by rw [eqIface]; simp
      have hE2 : ∀ w, (Op.equalIn 10000 41 (.agg #[.int .i64 a', .int .i64 b', .int .i64 c', .int .i64 d', .int .i64 e']) (.agg #[.int .i64 a, .int .i64 b, .int .i64 c, .int .i64 d, .int .i64 e])).run Try.prog w = .ok (!u) w := fun w => by rw [eqIface, ← hu]; simp [unlike]
      have hE3 : ∀ w, (Op.equalIn 10000 33 (.agg #[.int .i64 a, .int .i64 b, .int .i64 d, .int .i64 e]) (.agg #[.int .i64 a, .int .i64 b, .int .i64 d, .int .i64 e])).run Try.prog w = .ok true w := fun w => by rw [eqCand]; simp
      have Hap := Lib.hid hap
      have Hx := Lib.hid hx
      have H2 := Lib.hid h2
      have Hu := Lib.hid hu
      clear hap hx h2 hu
      go_enter Try.func8, Try.ntmps8
      go_wp2_with (first
        | (go_at_call 22; (with_reducible refine Calls.mono (wakes10 _) ?_); rintro r w1 ⟨rfl, hb1⟩; have hB := (stepsR0 hb1).1; obtain ⟨c0, c1, c2, c3, c4, _⟩ := Blk.cells5 hB; have hb : Below w.heap.size w w1 := (stepsR0 hb1).2; have HL := Lib.hid (CandsAt.below (Hl.out _) (hb1.mono (by simp))); have HB := Lib.hid hB; clear hb1 hB)
        | (go_at_call 23; (with_reducible refine Calls.mono (apart10_v HL.out hb.size Hn.out Hap.out) ?_); rintro r w2 ⟨rfl, hb2⟩; have hB := HB.out.below hb2 HB.out.lt; obtain ⟨c0, c1, c2, c3, c4, _⟩ := Blk.cells5 hB; have HL := Lib.hid (CandsAt.below HL.out (hb2.mono hb.size)); have hb := hb.trans (hb2.mono hb.size); have HB := Lib.hid hB; clear hb2 hB)
        | (go_at_call 24; (with_reducible refine Calls.mono (step_v HL.out hb.size Hn.out rfl Hx.out) ?_); rw [Hu.out]; rintro r w3 ⟨rfl, hb3⟩;
            obtain ⟨w4, gx, hgx, hW4, hB4, hX4, hbw4, hL4, hlt4⟩ := stepsR1 HB.out HL.out hb hb3 #[.int .i64 a', .int .i64 b', .int .i64 c', .int .i64 d', .int .i64 e'];
            obtain ⟨c0, c1, c2, c3, c4, _⟩ := Blk.cells5 hB4; have HB := Lib.hid hB4; have HX4 := Lib.hid hX4; have HL := Lib.hid hL4; have Hb4 := Lib.hid hbw4; clear hb3 hb hB4 hX4 hL4 hbw4)
        | (go_at_call 25; (with_reducible refine Calls.mono (refStep_n HL.out Hb4.out.size Hn.out rfl H2.out) ?_); rintro r w5 ⟨rfl, hb5⟩;
            obtain ⟨w6, gy, hgy, hW6, hB6, hX6, hY6, hbw6⟩ := stepsR2 HB.out HX4.out Hb4.out hb5 #[.int .i64 a', .int .i64 b', .int .i64 c', .int .i64 d', .int .i64 e'];
            obtain ⟨c0, c1, c2, c3, c4, _⟩ := Blk.cells5 hB6; obtain ⟨x0, x1, x2, x3, x4, _⟩ := Blk.cells5 hX6; obtain ⟨y0, y1, y2, y3, y4, _⟩ := Blk.cells5 hY6; have Hb6 := Lib.hid hbw6; clear hb5 hB6 hX6 hY6 hbw6))
      have cO : ∀ dd os, Calls Try.prog 26 #[.agg #[.int .i64 a, .int .i64 b, .int .i64 c, .int .i64 d, .int .i64 e]] (grow (redrawn w6 dd) os) fun r w'' => r = .returned (.agg #[.int .i64 a, .int .i64 b, .int .i64 d, .int .i64 e]) ∧ ∃ p : Regrown, w'' = grow (redrawn w6 p.d) p.os := fun dd os => Calls.regrown_of (own_v a b c d e _)
      have CO := Lib.hid cO
      clear cO
      have k0 := cell_regrown c0
      have k1 := cell_regrown c1
      have k2 := cell_regrown c2
      have k3 := cell_regrown c3
      have k4 := cell_regrown c4
      have z0 := cell_regrown x0
      have z1 := cell_regrown x1
      have z2 := cell_regrown x2
      have z3 := cell_regrown x3
      have z4 := cell_regrown x4
      have v0 := cell_regrown y0
      have v1 := cell_regrown y1
      have v2 := cell_regrown y2
      have v3 := cell_regrown y3
      have v4 := cell_regrown y4
      clear c0 c1 c2 c3 c4 x0 x1 x2 x3 x4 y0 y1 y2 y3 y4 hW4 hW6
      cases u
      all_goals
        refine wp_region_quiet_below (by kernel_rfl) (by kernel_rfl) ?_
        repeat (go_big_quiet_step (exact CO.out _ _))
        refine wpQuiet_nil ?_
        rintro w7 ⟨⟨dq, osq⟩, rfl⟩
        go_wp2
        go_ret
        exact ⟨rfl, Hb6.out.trans ((below_regrown w6 dq osq).mono Hb6.out.size)⟩

end Go.Proofs.Ytkaeedffhmlomaa
