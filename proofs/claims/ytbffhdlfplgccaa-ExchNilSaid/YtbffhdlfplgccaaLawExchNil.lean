/-
  The law ExchNil: its walk.
-/
import Derived.Test.YtbffhdlfplgccaaExWakes
namespace Go.Proofs.Ytbffhdlfplgccaa
open Go.RowKit Go.Sort

set_option maxHeartbeats 1000000 in
theorem same13_nil (w : World) : Calls Try.prog 30 #[.slice none 0 0, .slice none 0 0] w fun r w' => r = .returned (.bool true) ∧ w' = w := by
  go_enter Try.func30, Try.ntmps30
  go_wp2
  go_loopw [5] (fun i wr => i = .int .i64 0 ∧ wr = w) (fun _ _ => 0)
  case atStart => exact ⟨rfl, rfl⟩
  case round =>
    obtain ⟨rfl, rfl⟩ := hrel
    go_wp2
    go_ret
    exact ⟨rfl, rfl⟩
set_option maxHeartbeats 2000000 in
set_option maxRecDepth 100000 in
theorem alike_nil (w : World) : Calls Try.prog 80 #[.agg #[.bool false, .bool false, .bool false, .int .i64 0, .slice none 0 0], .agg #[.bool false, .bool false, .bool false, .int .i64 0, .slice none 0 0]] w fun r w' => r = .returned (.bool true) ∧ Below w.heap.size w w' := by
  have HB0 := Lib.hid (fun o o' => (below_new w o).alloc (by simp) o')
  go_enter Try.func80, Try.ntmps80
  go_wp2
  go_ret
  exact ⟨rfl, HB0.out _ _⟩
set_option maxHeartbeats 2000000 in
set_option maxRecDepth 100000 in
theorem same14_nil (w : World) : Calls Try.prog 41 #[.agg #[.bool false, .bool false, .bool false, .int .i64 0, .slice none 0 0], .agg #[.bool false, .bool false, .bool false, .int .i64 0, .slice none 0 0]] w fun r w' => r = .returned (.bool true) ∧ Below w.heap.size w w' := by
  obtain ⟨w2, hw2⟩ : ∃ w2, (w.alloc (.cells #[.bool false, .bool false, .bool false, .int .i64 0, .slice none 0 0] 66)).alloc (.cells #[.bool false, .bool false, .bool false, .int .i64 0, .slice none 0 0] 66) = w2 := ⟨_, rfl⟩
  have ha : Blk w2 w.heap.size 66 #[.bool false, .bool false, .bool false, .int .i64 0, .slice none 0 0] := by rw [← hw2]; exact (Blk.new _ _ _).alloc _
  have hb : Blk w2 (w.heap.size + 1) 66 #[.bool false, .bool false, .bool false, .int .i64 0, .slice none 0 0] := by rw [← hw2]; exact Blk.size (by simp)
  have hb2 : Below w.heap.size w w2 := by rw [← hw2]; exact (below_new _ _).alloc (by simp) _
  have Ha := Lib.hid ha
  have Hb := Lib.hid hb
  have Hb2 := Lib.hid hb2
  obtain ⟨d0, d1, d2, d3, d4⟩ := blk5 ha
  obtain ⟨e0, e1, e2, e3, e4⟩ := blk5 hb
  clear ha hb hb2
  go_enter Try.func41, Try.ntmps41
  go_wp2_with fail
  with_reducible refine Calls.mono (alike_nil _) ?_
  rintro r w3 ⟨rfl, hb3⟩
  have Hb3 := Lib.hid (below_trans Hb2.out Hb2.out.size hb3)
  obtain ⟨d0, d1, d2, d3, d4⟩ := blk5 (Ha.out.below hb3 Ha.out.lt)
  obtain ⟨e0, e1, e2, e3, e4⟩ := blk5 (Hb.out.below hb3 Hb.out.lt)
  clear hb3
  go_wp2_with (go_at_call 30; (with_reducible refine Calls.mono (same13_nil _) ?_); rintro r w4 ⟨rfl, rfl⟩)
  go_ret
  exact ⟨rfl, Hb3.out⟩
set_option maxHeartbeats 4000000 in
set_option maxRecDepth 100000 in
theorem exchNil_any (b1 b2 b3 : Bool) (n : Int) (A : Option Addr) (m c : Nat) (w : World) : Calls Try.prog 6 #[.agg #[.bool b1, .bool b2, .bool b3, .int .i64 n, .slice A m c]] w fun r w' => r = .returned (.bool true) ∧ Below w.heap.size w w' := by
  obtain ⟨w1, hw1⟩ : ∃ w1, w.alloc (.cells #[.bool b1, .bool b2, .bool b3, .int .i64 n, .slice A m c] 66) = w1 := ⟨_, rfl⟩
  obtain ⟨g1, hg1⟩ : ∃ g1, w.heap.size = g1 := ⟨_, rfl⟩
  have hd := Blk.new w 66 #[.bool b1, .bool b2, .bool b3, .int .i64 n, .slice A m c]
  have hb1 := below_new w (.cells #[.bool b1, .bool b2, .bool b3, .int .i64 n, .slice A m c] 66)
  rw [hw1, hg1] at hd
  rw [hw1] at hb1
  have HD := Lib.hid hd
  have Hb1 := Lib.hid hb1
  clear hd hb1
  go_enter Try.func6, Try.ntmps6
  go_wp2_with fail
  with_reducible refine Calls.mono (wakes14 _) ?_
  rintro r w2 ⟨rfl, hb2⟩
  have HD2 := Lib.hid (HD.out.below hb2 HD.out.lt)
  have Hb2 := Lib.hid (below_trans Hb1.out Hb1.out.size hb2)
  clear hb2
  go_wp2_with fail
  with_reducible refine Calls.mono (say_nil _) ?_
  rintro r w3 ⟨rfl, hb3⟩
  have hd4 := Blk.new w3 66 #[.bool false, .bool false, .bool false, .int .i64 0, .slice none 0 0]
  have hb4 := below_new w3 (.cells #[.bool false, .bool false, .bool false, .int .i64 0, .slice none 0 0] 66)
  have hb34 := below_trans hb3 hb3.size hb4
  have Hb4 := Lib.hid (below_trans Hb2.out Hb2.out.size hb34)
  have HD4 := Lib.hid hd4
  obtain ⟨d0, d1, d2, d3, d4⟩ := blk5 (HD2.out.below hb34 HD2.out.lt)
  have HH := Lib.hid (hear_nil b1 b2 b3 n A m c (w3.alloc (.cells #[.bool false, .bool false, .bool false, .int .i64 0, .slice none 0 0] 66)))
  clear hb3 hb4 hb34 hd4
  go_wp2_with fail
  with_reducible refine Calls.mono HH.out ?_
  rintro r w5 ⟨rfl, hb5⟩
  have Hb5 := Lib.hid (below_trans Hb4.out Hb4.out.size hb5)
  obtain ⟨e0, e1, e2, e3, e4⟩ := blk5 (HD4.out.below hb5 HD4.out.lt)
  clear hb5 d0 d1 d2 d3 d4
  go_wp2_with fail
  with_reducible refine Calls.mono (same14_nil _) ?_
  rintro r w6 ⟨rfl, hb6⟩
  have Hb6 := Lib.hid (below_trans Hb5.out Hb5.out.size hb6)
  clear hb6 e0 e1 e2 e3 e4
  go_wp2_with (first
    | (go_at_call 38; (with_reducible refine Calls.mono (agreed_nil _) ?_); rintro r wx ⟨rfl, rfl⟩)
    | (go_at_call 42; (with_reducible refine Calls.mono (leads_nil _) ?_); rintro r wx ⟨rfl, rfl⟩)
    | (go_at_call 43; (with_reducible refine Calls.mono (done_nil _) ?_); rintro r wx ⟨rfl, rfl⟩)
    | (go_at_call 44; (with_reducible refine Calls.mono (seq_nil _) ?_); rintro r wx ⟨rfl, rfl⟩))
  go_ret
  exact ⟨rfl, Hb6.out⟩

end Go.Proofs.Ytbffhdlfplgccaa
