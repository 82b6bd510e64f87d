/-
  The law SummNil: its walk.
-/
import Derived.Test.YtmjjmkdjjfmhhaaSuNil
import Derived.Test.YtmjjmkdjjfmhhaaQuietTail
namespace Go.Proofs.Ytmjjmkdjjfmhhaa
open Go.RowKit Go.Sort

theorem eqHeadS (y1 y2 y3 y4 y5 y6 y7 : Int) (w : World) : (Op.equalIn 10000 23 (.agg #[.int .i64 y1, .int .i64 y2, .int .i64 y3, .int .i64 y4, .int .i64 y5, .int .i64 y6, .int .i64 y7]) (.agg #[.int .i64 y1, .int .i64 y2, .int .i64 y3, .int .i64 y4, .int .i64 y5, .int .i64 y6, .int .i64 y7])).run Try.prog w = .ok true w := by
  have hS : Try.prog.underlying 23 = some (.struct (Try.prog.fieldsOf 23)) := by kernel_rfl
  have hp : Try.prog.stoodInHeld 23 = false := by kernel_rfl
  rw [show (10000 : Nat) = 9999 + 1 from rfl, run_equalIn_struct w 9999 23 _ _ hS hp]
  simp only [Program.fieldsOf, Try.underlying23]
  go_simp
set_option maxHeartbeats 4000000 in
set_option maxRecDepth 100000 in
theorem summNil_any (hd : Hd) (w : World) : Calls Try.prog 10 #[.agg #[.int .i64 hd.age, .int .i64 hd.kind, .int .i64 hd.id, .int .i64 hd.adv, .int .i64 hd.seq, .int .i64 hd.sum, .int .i64 hd.long]] w fun r w' => r = .returned (.bool true) ∧ Below w.heap.size w w' := by
  obtain ⟨y1, y2, y3, y4, y5, y6, y7⟩ := hd
  simp only
  obtain ⟨w1, hw1⟩ : ∃ w1, w.alloc (.cells #[.int .i64 y1, .int .i64 y2, .int .i64 y3, .int .i64 y4, .int .i64 y5, .int .i64 y6, .int .i64 y7] 23) = w1 := ⟨_, rfl⟩
  obtain ⟨g, hg⟩ : ∃ g, w.heap.size = g := ⟨_, rfl⟩
  have hk1 := Blk.new w 23 #[.int .i64 y1, .int .i64 y2, .int .i64 y3, .int .i64 y4, .int .i64 y5, .int .i64 y6, .int .i64 y7]
  have hb1 := below_new w (.cells #[.int .i64 y1, .int .i64 y2, .int .i64 y3, .int .i64 y4, .int .i64 y5, .int .i64 y6, .int .i64 y7] 23)
  rw [hw1, hg] at hk1
  rw [hw1] at hb1
  have K1 := Lib.hid hk1
  have B1 := Lib.hid hb1
  clear hk1 hb1
  go_enter Try.func10, Try.ntmps10
  go_wp2_with fail
  with_reducible refine Calls.mono (wakes13 _) ?_
  rintro r w2 ⟨rfl, hb2⟩
  have K2 := Lib.hid (K1.out.below hb2 K1.out.lt)
  have B2 := Lib.hid (below_trans B1.out B1.out.size hb2)
  obtain ⟨z0, z1, z2, z3, z4, z5, z6⟩ := blk7n K2.out
  clear hb2
  go_wp2_with fail
  with_reducible refine Calls.mono (Lacks_one _ _ _ _ _ _ _ _ _ (Blk.new _ _ _)) ?_
  rintro r w3 ⟨⟨u, rfl, hu⟩, hb3⟩
  have hb3' := (below_new w2 (.cells #[.int .i64 y1, .int .i64 y2, .int .i64 y3, .int .i64 y4, .int .i64 y5, .int .i64 y6, .int .i64 y7] 23)).trans (hb3.mono (by simp))
  have K3' := Lib.hid (K2.out.below hb3' K2.out.lt)
  have B3 := Lib.hid (below_trans B2.out B2.out.size hb3')
  obtain ⟨g', cap, hc, hv⟩ : ∃ g c, 1 ≤ c ∧ u = .slice (some ⟨g, 0, none⟩) 1 c := by
    rcases hu.shape2 with ⟨-, hl⟩ | ⟨g, c5, rfl, hc5⟩
    · cases hl
    · exact ⟨g, c5, hc5, rfl⟩
  subst hv
  obtain ⟨b', o', e, -, x0, x1, x2, x3, x4, x5, x6⟩ := row_hd13 (OwnR.rows (C := 7) (cells := Hd.cells) (fun _ => rfl) hu).2
  injection e with e
  injection e with e1 e2
  subst e1 e2
  simp only at x0 x1 x2 x3 x4 x5 x6
  clear z0 z1 z2 z3 z4 z5 z6 hu hb3 hb3' hc
  obtain ⟨z0, z1, z2, z3, z4, z5, z6⟩ := blk7n K3'.out
  have CP := Lib.hid (fun dd os => Calls.regrown_of (w := w3) (d := dd) (os := os) (SuPiece_nil _))
  have CM := Lib.hid (fun dd os => Calls.regrown_of (w := w3) (d := dd) (os := os) (SuMore_nil _))
  have CS := Lib.hid (fun dd os => Calls.regrown_of (w := w3) (d := dd) (os := os) (SuStep_nil _))
  have x0 := cell_regrown x0
  have x1 := cell_regrown x1
  have x2 := cell_regrown x2
  have x3 := cell_regrown x3
  have x4 := cell_regrown x4
  have x5 := cell_regrown x5
  have x6 := cell_regrown x6
  have z0 := cell_regrown z0
  have z1 := cell_regrown z1
  have z2 := cell_regrown z2
  have z3 := cell_regrown z3
  have z4 := cell_regrown z4
  have z5 := cell_regrown z5
  have z6 := cell_regrown z6
  have he := eqHeadS y1 y2 y3 y4 y5 y6 y7
  go_wp2_with fail
  refine wp_below_tail 26 (by kernel_rfl) (by kernel_rfl) ?_
  simp only [List.take_succ_cons, List.take_zero, List.drop_succ_cons, List.drop_zero]
  repeat (go_big_quiet_step (first | exact CP.out _ _ | exact CM.out _ _ | exact CS.out _ _))
  refine wpQuiet_nil ?_
  rintro w4 ⟨⟨dq, osq⟩, rfl⟩
  have B4 := Lib.hid (below_trans B3.out B3.out.size (below_regrown w3 dq osq))
  go_wp2
  go_ret
  exact ⟨rfl, B4.out⟩

end Go.Proofs.Ytmjjmkdjjfmhhaa
