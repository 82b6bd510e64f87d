/-
  Layer 14: an exchange hears its first piece: the example that each law asks first; an exchange that is not there.
-/
import Derived.Test.YtbffhdlfplgccaaExNew
namespace Go.Proofs.Ytbffhdlfplgccaa
open Go.RowKit Go.Sort

set_option maxHeartbeats 8000000 in
set_option maxRecDepth 100000 in
theorem hear_w (p : Nat) (w : World) (hp : Blk w p 120 (exA 1 2 5 false false false false false false 0 true true true 5 (.slice none 0 0) (.pointer none))) :
    Calls Try.prog 40 #[.pointer (some ⟨p, 0, none⟩), .agg #[.bool true, .bool true, .bool true, .int .i64 9, .slice none 0 0], .slice none 0 0] w fun r w' => r = .returned (.int .i64 2) ∧ (∃ s, Blk w' p 120 (exA 1 2 9 true false false true true true 9 false false false 9 (.slice none 0 0) (.pointer (some ⟨s, 0, none⟩)))) ∧ w.grownBy w' (some p) := by
  obtain ⟨w1, hw1⟩ : ∃ w1, w.alloc (.cells #[.bool true, .bool true, .bool true, .int .i64 9, .slice none 0 0] 66) = w1 := ⟨_, rfl⟩
  obtain ⟨g1, hg1⟩ : ∃ g1, w.heap.size = g1 := ⟨_, rfl⟩
  have hd := Blk.new w 66 #[.bool true, .bool true, .bool true, .int .i64 9, .slice none 0 0]
  have hb1 := below_new w (.cells #[.bool true, .bool true, .bool true, .int .i64 9, .slice none 0 0] 66)
  rw [hw1, hg1] at hd
  rw [hw1] at hb1
  obtain ⟨w2, hw2⟩ : ∃ w2, w1.alloc (.cells #[.bool true, .bool true, .bool true, .int .i64 9] 118) = w2 := ⟨_, rfl⟩
  obtain ⟨g2, hg2⟩ : ∃ g2, w1.heap.size = g2 := ⟨_, rfl⟩
  have hm := Blk.new w1 118 #[.bool true, .bool true, .bool true, .int .i64 9]
  have hb2 := below_new w1 (.cells #[.bool true, .bool true, .bool true, .int .i64 9] 118)
  rw [hw2, hg2] at hm
  rw [hw2] at hb2
  have hp1 := hp.below hb1 hp.lt
  have hp2 := hp1.below hb2 hp1.lt
  have hd2 := hd.below hb2 hd.lt
  have Hb2 := Lib.hid (gr_trans (gr_below (row := some p) hb1) (gr_below hb2))
  have HM := Lib.hid hm
  have HB := Lib.hid (begin_w p w2 hp2)
  have Hpg2 := Lib.hid (show p < g2 from by have := hp1.lt; omega)
  obtain ⟨x0, x1, x2, x3, x4, x5, x6, x7, x8, x9, xa, xb, xc, xd, xe, xf⟩ := blk16 hp2
  obtain ⟨d0, d1, d2, d3, d4⟩ := blk5 hd
  obtain ⟨e0, e1, e2, e3, e4⟩ := blk5 hd2
  clear hp hb1 hd hm hb2 hp1 hp2 hd2
  go_enter Try.func40, Try.ntmps40
  go_wp2_with fail
  with_reducible refine Calls.mono HB.out ?_
  rintro r w3 ⟨rfl, ⟨s, hp3⟩, hb3⟩
  have hm3 := HM.out.grown hb3 (fun e => by injection e with e; have := Hpg2.out; omega)
  have HP3 := Lib.hid hp3
  have Hb3 := Lib.hid (gr_trans Hb2.out hb3)
  have hfz := fun i => hp3.frozen i
  obtain ⟨m0, m1, m2, m3⟩ : _ ∧ _ ∧ _ ∧ _ := ⟨hm3.cell 0, hm3.cell 1, hm3.cell 2, hm3.cell 3⟩
  simp only [List.getElem?_toArray, List.getElem?_cons_zero, List.getElem?_cons_succ] at m0 m1 m2 m3
  clear x0 x1 x2 x3 x4 x5 x6 x7 x8 x9 xa xb xc xd xe xf d0 d1 d2 d3 d4 e0 e1 e2 e3 e4
  obtain ⟨x0, x1, x2, x3, x4, x5, x6, x7, x8, x9, xa, xb, xc, xd, xe, xf⟩ := blk16 hp3
  clear hp3 hb3 hm3
  go_wp2
  go_ret
  have hset := (((HP3.out.set_ 6 (.bool true)).set_ 7 (.bool true)).set_ 8 (.bool true)).set_ 9 (.int .i64 9)
  exact ⟨rfl, ⟨s, by simpa [exA] using hset⟩, gr_set (gr_set (gr_set (gr_set Hb3.out 6 _) 7 _) 8 _) 9 _⟩

theorem agreed_any (p : Nat) (b : Bool) (w : World) (h : w.cell? ⟨p, 3, none⟩ = some (.bool b)) : Calls Try.prog 38 #[.pointer (some ⟨p, 0, none⟩)] w fun r w' => r = .returned (.bool b) ∧ w' = w := by
  go_enter Try.func38, Try.ntmps38
  go_wp2
  go_ret
  exact ⟨rfl, rfl⟩
theorem leads_any (p : Nat) (b : Bool) (w : World) (h : w.cell? ⟨p, 4, none⟩ = some (.bool b)) : Calls Try.prog 42 #[.pointer (some ⟨p, 0, none⟩)] w fun r w' => r = .returned (.bool b) ∧ w' = w := by
  go_enter Try.func42, Try.ntmps42
  go_wp2
  go_ret
  exact ⟨rfl, rfl⟩
theorem seq_any (p : Nat) (n : Int) (w : World) (h : w.cell? ⟨p, 2, none⟩ = some (.int .i64 n)) : Calls Try.prog 44 #[.pointer (some ⟨p, 0, none⟩)] w fun r w' => r = .returned (.int .i64 n) ∧ w' = w := by
  go_enter Try.func44, Try.ntmps44
  go_wp2
  go_ret
  exact ⟨rfl, rfl⟩
set_option maxHeartbeats 4000000 in
set_option maxRecDepth 100000 in
theorem wakes14 (w : World) : Calls Try.prog 34 #[] w fun r w' => r = .returned (.bool true) ∧ Below w.heap.size w w' := by
  have HB0 := Lib.hid (fun o => below_new w o)
  go_enter Try.func34, Try.ntmps34
  go_wp2_with fail
  with_reducible refine Calls.mono (exNew _ _ _ _) ?_
  rintro r w1 ⟨rfl, hw1⟩
  have hp1 : Blk w1 w.heap.size 120 (exA 1 2 5 false false false false false false 0 true true true 5 (.slice none 0 0) (.pointer none)) := by rw [hw1]; exact Blk.new _ _ _
  have hb1 : Below w.heap.size w w1 := by rw [hw1]; exact HB0.out _
  have HH := Lib.hid (hear_w _ w1 hp1)
  have Hb1 := Lib.hid hb1
  clear hp1 hb1 hw1
  go_wp2_with fail
  with_reducible refine Calls.mono HH.out ?_
  rintro r w2 ⟨rfl, ⟨s, hp2⟩, hb2⟩
  obtain ⟨x0, x1, x2, x3, x4, x5, x6, x7, x8, x9, xa, xb, xc, xd, xe, xf⟩ := blk16 hp2
  have HA := Lib.hid (agreed_any _ true w2 x3)
  have HL := Lib.hid (leads_any _ false w2 x4)
  have HS := Lib.hid (seq_any _ 9 w2 x2)
  have Hb2 := Lib.hid (show Below w.heap.size w w2 from Hb1.out.grown hb2 Hb1.out.size (fun m e => by injection e with e; omega))
  clear hp2 hb2 x0 x1 x2 x3 x4 x5 x6 x7 x8 x9 xa xb xc xd xe xf
  go_wp2_with (first
    | (go_at_call 38; (with_reducible refine Calls.mono HA.out ?_); rintro r wx ⟨rfl, rfl⟩)
    | (go_at_call 42; (with_reducible refine Calls.mono HL.out ?_); rintro r wx ⟨rfl, rfl⟩)
    | (go_at_call 44; (with_reducible refine Calls.mono HS.out ?_); rintro r wx ⟨rfl, rfl⟩))
  go_ret
  exact ⟨rfl, Hb2.out⟩

theorem agreed_nil (w : World) : Calls Try.prog 38 #[.pointer none] w fun r w' => r = .returned (.bool false) ∧ w' = w := by
  go_enter Try.func38, Try.ntmps38
  go_wp2
  go_ret
  exact ⟨rfl, rfl⟩
theorem leads_nil (w : World) : Calls Try.prog 42 #[.pointer none] w fun r w' => r = .returned (.bool false) ∧ w' = w := by
  go_enter Try.func42, Try.ntmps42
  go_wp2
  go_ret
  exact ⟨rfl, rfl⟩
theorem done_nil (w : World) : Calls Try.prog 43 #[.pointer none] w fun r w' => r = .returned (.bool false) ∧ w' = w := by
  go_enter Try.func43, Try.ntmps43
  go_wp2
  go_ret
  exact ⟨rfl, rfl⟩
theorem seq_nil (w : World) : Calls Try.prog 44 #[.pointer none] w fun r w' => r = .returned (.int .i64 0) ∧ w' = w := by
  go_enter Try.func44, Try.ntmps44
  go_wp2
  go_ret
  exact ⟨rfl, rfl⟩
set_option maxHeartbeats 1000000 in
theorem hear_nil (b1 b2 b3 : Bool) (n : Int) (A : Option Addr) (m c : Nat) (w : World) : Calls Try.prog 40 #[.pointer none, .agg #[.bool b1, .bool b2, .bool b3, .int .i64 n, .slice A m c], .slice none 0 0] w fun r w' => r = .returned (.int .i64 0) ∧ Below w.heap.size w w' := by
  have HB0 := Lib.hid (fun o => below_new w o)
  go_enter Try.func40, Try.ntmps40
  go_wp2
  go_ret
  exact ⟨rfl, HB0.out _⟩
set_option maxHeartbeats 1000000 in
theorem say_nil (w : World) : Calls Try.prog 39 #[.pointer none] w fun r w' => r = .returned (.tuple #[.agg #[.bool false, .bool false, .bool false, .int .i64 0, .slice none 0 0], .bool false]) ∧ Below w.heap.size w w' := by
  go_enter Try.func39, Try.ntmps39
  go_wp2
  refine bodyPost_ret (v := .tuple #[.agg #[.bool false, .bool false, .bool false, .int .i64 0, .slice none 0 0], .bool false]) (by simp [results, Try.results39, go_sem]) rfl ⟨rfl, ?_⟩
  exact below_new _ _

end Go.Proofs.Ytbffhdlfplgccaa
