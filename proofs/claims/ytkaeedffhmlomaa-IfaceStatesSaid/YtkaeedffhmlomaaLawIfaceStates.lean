/-
  The law IfaceStates: its walk.
-/
import Derived.BigRegion
import Derived.Deep.RegionLaw
import Derived.Test.YtkaeedffhmlomaaLawIfaceAgain
import Derived.Test.YtkaeedffhmlomaaIfStates
import Derived.Test.YtkaeedffhmlomaaOpenCss
namespace Go.Proofs.Ytkaeedffhmlomaa
open Go.RowKit

theorem statesR1 {w w1 : World} (hb : Below w.heap.size w w1) (xs : Array Value) :
    Blk (w1.alloc (.cells xs 41)) w1.heap.size 41 xs ∧ Below w.heap.size w (w1.alloc (.cells xs 41)) ∧ w.heap.size ≤ w1.heap.size :=
  ⟨Blk.new _ _ _, hb.alloc hb.size _, hb.size⟩
/-- a call, then the row stored -/
theorem statesR2 {w w2 w3 : World} {gi : Nat} {x0 x1 x2 x3 x4 : Value} (hB : Blk w2 gi 41 #[x0, x1, x2, x3, x4]) (hb : Below w.heap.size w w2) (hg : w.heap.size ≤ gi) (h3 : Below w2.heap.size w2 w3) (a b c d e : Value) :
    Blk w3 gi 41 #[x0, x1, x2, x3, x4] ∧
    ∃ w4, ((((w3.setCell ⟨gi, 0, none⟩ a).setCell ⟨gi, 1, none⟩ b).setCell ⟨gi, 2, none⟩ c).setCell ⟨gi, 3, none⟩ d).setCell ⟨gi, 4, none⟩ e = w4 ∧ Blk w4 gi 41 #[a, b, c, d, e] ∧ Below w.heap.size w w4 := by
  have hB3 := hB.below h3 hB.lt
  have hb3 := hb.trans (h3.mono hb.size)
  exact ⟨hB3, _, rfl, set5 hB3, ((((hb3.setCell hg _).setCell hg _).setCell hg _).setCell hg _).setCell hg _⟩

set_option maxHeartbeats 8000000 in
set_option maxRecDepth 100000 in
theorem ifaceStates_any (x y : Nat) (hx : x ≤ 255) (hy : y ≤ 255) (A : Option Addr) (cap : Nat) (R : List CRow) (w : World) (hR : Reads w w.heap.size 1 A R.length (R.map CRow.val)) (hm : R.length ≤ maxLen)
    (hin : ∀ r ∈ R, CandsAt w w.heap.size r.a r.l ∧ r.l.length ≤ maxLen) :
    Calls Try.prog 9 #[.int .u8 (x : Int), .int .u8 (y : Int), .slice A R.length cap] w fun r w' => r = .returned (.bool true) ∧ Below w.heap.size w w' := by
  unfold maxLen at hm
  have HR := Lib.hid hR
  have Hin := Lib.hid hin
  clear hR hin
  by_cases h20 : 20 < R.length
  · go_enter Try.func9, Try.ntmps9
    go_wp2_with (go_at_call 22; (with_reducible refine Calls.mono (wakes10 _) ?_); rintro r w1 ⟨rfl, hb1⟩; have Hb := Lib.hid hb1; clear hb1)
    go_ret
    exact ⟨rfl, Hb.out⟩
  · obtain ⟨s, hs, hs1⟩ : ∃ s : Int, (1 + (x : Int) % 15) = s ∧ 1 ≤ s ∧ s ≤ 15 := ⟨_, rfl, by omega, by omega⟩
    obtain ⟨p, hp, hp1⟩ : ∃ p : Int, (y : Int) % 3 = p ∧ 0 ≤ p ∧ p ≤ 2 := ⟨_, rfl, by omega, by omega⟩
    rcases h0 : stepI ⟨s, p, 0, 0, 0⟩ 0 [] with ⟨s', p', st, d, b⟩
    have ht := told_begin (p := p) hs1.1
    rw [h0] at ht
    obtain rfl : s' = s := ht.1
    obtain rfl : p' = p := ht.2.1
    have H0 := Lib.hid h0
    have Ht := Lib.hid ht
    have Hs1 := Lib.hid hs1.1
    clear h0 ht hp1 hs1
    go_enter Try.func9, Try.ntmps9
    go_wp2_with (first
      | (go_at_call 22; (with_reducible refine Calls.mono (wakes10 _) ?_); rintro r w1 ⟨rfl, hb1⟩; obtain ⟨hB2, hbw2, hle⟩ := statesR1 hb1 #[.int .i64 s', .int .i64 p', .int .i64 0, .int .i64 0, .int .i64 0]; obtain ⟨c0, c1, c2, c3, c4, _⟩ := Blk.cells5 hB2; have HB2 := Lib.hid hB2; have Hb2 := Lib.hid hbw2; have Hle := Lib.hid hle; clear hb1 hB2 hbw2 hle)
      | (go_at_call 24; go_loud ((refine Calls.mono (step_v (l := []) (cands_nil _ _ _) (Nat.le_refl _) (by simp) rfl H0.out) ?_; rintro r w3 ⟨rfl, hb3⟩; obtain ⟨hB3, w4, hW4, hB4, hb4⟩ := statesR2 HB2.out Hb2.out Hle.out hb3 (.int .i64 s') (.int .i64 p') (.int .i64 st) (.int .i64 d) (.int .i64 b); obtain ⟨j0, j1, j2, j3, j4, f0, f1, f2, f3, f4⟩ := Blk.cells5 hB3; have HB4 := Lib.hid hB4; have Hb4 := Lib.hid hb4; clear hB3 hB4 hb4))))
    clear c0 c1 c2 c3 c4 f0 f1 f2 f3 f4 j0 j1 j2 j3 j4 hW4
    have HB4' := HB4
    clear HB2
    generalize w1.heap.size = gi at *
    go_loopw [30] (fun i wr => ∃ (k : Nat) (st d b : Int), k ≤ R.length ∧ i = .int .i64 k ∧ Blk wr gi 41 #[.int .i64 s', .int .i64 p', .int .i64 st, .int .i64 d, .int .i64 b] ∧ Told s' p' ⟨s', p', st, d, b⟩ ∧ Below w.heap.size w wr) (fun i _ => R.length - (intOf i).toNat)
    case atStart => exact ⟨0, st, d, b, Nat.zero_le _, rfl, HB4.out, Ht.out, Hb4.out⟩
    case round =>
      obtain ⟨k, st, d, b, hk, rfl, hB, ht, hb⟩ := hrel
      by_cases hlt : k < R.length
      · obtain ⟨b0, o0, rfl, hbB, hc⟩ := (Reads.below HR.out hb).2 (by omega : 0 < R.length)
        have e0 : wr.cell? ⟨b0, o0 + k, none⟩ = some (R[k]).val := hc k _ (by simp [List.getElem?_eq_getElem hlt])
        have hrow := Hin.out R[k] (List.getElem_mem hlt)
        generalize R[k] = r at *
        rcases r with ⟨ra, rc, rl⟩
        simp only [CRow.val] at e0 hrow
        obtain ⟨hl, hrl⟩ := hrow
        have HL := Lib.hid (CandsAt.below hl hb)
        have HB := Lib.hid hB
        have Hb := Lib.hid hb
        have Ht := Lib.hid ht
        unfold maxLen at hrl
        obtain ⟨c0, c1, c2, c3, c4, f0, f1, f2, f3, f4⟩ := Blk.cells5 hB
        clear hl hc hbB hB hb ht hs hp hx hy
        by_cases h20r : 20 < rl.length
        · go_wp2
          go_ret
          exact ⟨rfl, Hb.out⟩
        · have hn : rl.length ≤ 2 ^ 30 := by omega
          have Hn := Lib.hid hn
          clear hn
          cases hap : apartI ⟨s', p', st, d, b⟩ rl
          · have Hap := Lib.hid hap
            clear hap
            go_wp2_with (go_at_call 23; (with_reducible refine Calls.mono (apart10_v HL.out Hb.out.size Hn.out Hap.out) ?_); rintro r w5 ⟨rfl, hb5⟩)
            go_ret
            exact ⟨rfl, Hb.out.trans (hb5.mono Hb.out.size)⟩
          · rcases hx : stepI ⟨s', p', st, d, b⟩ (evOf k) rl with ⟨s2, p2, st2, d2, b2⟩
            have ht2 := told_step Hs1.out Ht.out hap (evOf_is k)
            rw [hx] at ht2
            obtain rfl : s2 = s' := ht2.1
            obtain rfl : p2 = p' := ht2.2.1
            have Ht2 := Lib.hid ht2
            have Hap := Lib.hid hap
            clear hap ht2
            obtain ⟨m, hm, hm3, hev⟩ := evOf_at k
            have hm4 : (m : Int) < 3 := by omega
            generalize evOf k = ev at *
            have Hx := Lib.hid hx
            have Hev := Lib.hid hev
            clear hx hev
            go_wp2_with (go_at_call 23; (with_reducible refine Calls.mono (apart10_v HL.out Hb.out.size Hn.out Hap.out) ?_); rintro r w5 ⟨rfl, hb5⟩; obtain ⟨c0, c1, c2, c3, c4, f0, f1, f2, f3, f4⟩ := Blk.cells5 (HB.out.below hb5 HB.out.lt))
            have HBW := Lib.hid fun o => ((HB.out.below hb5 HB.out.lt).alloc o).drew
            have hbw5 := Hb.out.trans (hb5.mono Hb.out.size)
            have HbW := Lib.hid fun o => (hbw5.alloc hbw5.size o).drew
            have HLW := Lib.hid fun o => CandsAt.below HL.out ((hb5.alloc hb5.size o).drew.mono Hb.out.size)
            have hcW := fun o => Blk.cells5 ((HB.out.below hb5 HB.out.lt).alloc o)
            simp only [forall_and] at hcW
            obtain ⟨x0, x1, x2, x3, x4, g0, g1, g2, g3, g4⟩ := hcW
            have he5 := Hev.out w5 3
            clear hbw5 hb5
            go_region_law ((go_simp; go_at_call 24; (with_reducible refine Calls.mono (step_v (HLW.out _) (HbW.out _).size Hn.out rfl Hx.out) ?_); rintro r w6 ⟨rfl, hb6⟩; obtain ⟨hB6, w7, hW7, hB7, hb7⟩ := statesR2 (HBW.out _) (HbW.out _) Hle.out hb6 (.int .i64 s2) (.int .i64 p2) (.int .i64 st2) (.int .i64 d2) (.int .i64 b2); obtain ⟨j0, j1, j2, j3, j4, i0, i1, i2, i3, i4⟩ := Blk.cells5 hB6; have HB7 := Lib.hid hB7; have Hb7 := Lib.hid hb7; clear hB6 hB7 hb7))
            all_goals
              clear j0 j1 j2 j3 j4 i0 i1 i2 i3 i4 x0 x1 x2 x3 x4 g0 g1 g2 g3 g4 c0 c1 c2 c3 c4 f0 f1 f2 f3 f4 he5 hW7 hm hm3 hm4
              clear hb6
              rcases told_cases Ht2.out with hc | ⟨d9, b9, hc, t0, t1, t2⟩ | ⟨d9, b9, hc, t0, t1, t2, t4⟩ | ⟨d9, b9, hc, t0, t1, t2, t4⟩ | ⟨d9, b9, hc, t0, t1, t2, t4⟩
            all_goals try (cases t3 : (p2 == 0))
            all_goals
              simp only [Ifc.mk.injEq, true_and] at hc
              obtain ⟨rfl, rfl, rfl⟩ := hc
              obtain ⟨c0, c1, c2, c3, c4, _⟩ := Blk.cells5 HB7.out
              have hend : ∃ st d b, Blk w7 gi 41 #[.int .i64 s2, .int .i64 p2, .int .i64 st, .int .i64 d, .int .i64 b] ∧ Told s2 p2 ⟨s2, p2, st, d, b⟩ ∧ Below w.heap.size w w7 := ⟨_, _, _, HB7.out, Ht2.out, Hb7.out⟩
              have Hend := Lib.hid hend
              clear hend HB7 Ht2 Hb7 HBW HbW HLW Hx
              first
                | exact absurd t4 (by decide)
                | go_wp2
                  go_roundw
                  case measure => simp [intOf]; omega
                  case rel =>
                    obtain ⟨st9, d9, b9, g1, g2, g3⟩ := Hend.out
                    exact ⟨k + 1, st9, d9, b9, hlt, by go_num, g1, g2, g3⟩
      · have HB := Lib.hid hB
        have Hb := Lib.hid hb
        have Hx := Lib.hid (told_down ⟨s', p', st, d, b⟩ [])
        obtain ⟨c0, c1, c2, c3, c4, f0, f1, f2, f3, f4⟩ := Blk.cells5 hB
        clear hB hb ht hs hp hx hy
        go_wp2_with (go_at_call 24; (with_reducible refine Calls.mono (step_v (l := []) (cands_nil _ _ _) (Nat.le_refl _) (by simp) rfl Hx.out) ?_); rintro r w6 ⟨rfl, hb6⟩; obtain ⟨hB6, w7, hW7, hB7, hb7⟩ := statesR2 HB.out Hb.out Hle.out hb6 (.int .i64 s') (.int .i64 p') (.int .i64 0) (.int .i64 0) (.int .i64 0); obtain ⟨j0, j1, j2, j3, j4, i0, i1, i2, i3, i4⟩ := Blk.cells5 hB6; obtain ⟨m0, m1, m2, m3, m4, _⟩ := Blk.cells5 hB7; have Hb7 := Lib.hid hb7; clear hB6 hB7 hb7)
        go_ret
        exact ⟨rfl, Hb7.out⟩

end Go.Proofs.Ytkaeedffhmlomaa
