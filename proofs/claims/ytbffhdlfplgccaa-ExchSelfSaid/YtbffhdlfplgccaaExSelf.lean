/-
  Layer 14: one side hears another one of its own number.
-/
import Derived.Test.YtbffhdlfplgccaaExWakes
namespace Go.Proofs.Ytbffhdlfplgccaa
open Go.RowKit Go.Sort

/-- an exchange with its own number, that nobody told anything -/
abbrev exS (n0 n : Int) : Array Value := #[.int .i64 n0, .int .i64 n0, .int .i64 n, .bool false, .bool false, .bool false, .bool false, .bool false, .bool false, .int .i64 0, .bool true, .bool true, .bool true, .int .i64 n, .slice none 0 0, .pointer none]
theorem clone14_nil (w : World) : Calls Try.prog 76 #[.slice none 0 0] w fun r w' => r = .returned (.slice none 0 0) ∧ w' = w := by
  have hnil := fun (w : World) => Lib.run_eql_slice_nil (P := Try.prog) w 35 28 none 0 0 0 0 Try.underlying35
  go_enter Try.func76, Try.ntmps76
  go_wp2
  go_ret
  exact ⟨rfl, rfl⟩
theorem Blk.set5 {w : World} {g : Nat} {t : TypeId} {a b c d e : Value} (h : Blk w g t #[a, b, c, d, e]) (a' b' c' d' e' : Value) : Blk (((((w.setCell ⟨g, 0, none⟩ a').setCell ⟨g, 1, none⟩ b').setCell ⟨g, 2, none⟩ c').setCell ⟨g, 3, none⟩ d').setCell ⟨g, 4, none⟩ e') g t #[a', b', c', d', e'] := by
  have := ((((h.set_ 0 a').set_ 1 b').set_ 2 c').set_ 3 d').set_ 4 e'
  simpa using this
theorem below_set5 {B g : Nat} {w w' : World} (h : Below B w w') (hg : B ≤ g) (a' b' c' d' e' : Value) : Below B w (((((w'.setCell ⟨g, 0, none⟩ a').setCell ⟨g, 1, none⟩ b').setCell ⟨g, 2, none⟩ c').setCell ⟨g, 3, none⟩ d').setCell ⟨g, 4, none⟩ e') :=
  ((((h.setCell hg _).setCell hg _).setCell hg _).setCell hg _).setCell hg _
set_option maxHeartbeats 4000000 in
set_option maxRecDepth 100000 in
theorem say_self (p : Nat) (n0 n : Int) (w : World) (hp : Blk w p 120 (exS n0 n)) :
    Calls Try.prog 39 #[.pointer (some ⟨p, 0, none⟩)] w fun r w' => r = .returned (.tuple #[.agg #[.bool true, .bool true, .bool true, .int .i64 n, .slice none 0 0], .bool true]) ∧ Below w.heap.size w w' := by
  obtain ⟨w1, hw1⟩ : ∃ w1, w.alloc (.cells #[.bool false, .bool false, .bool false, .int .i64 0, .slice none 0 0] 66) = w1 := ⟨_, rfl⟩
  obtain ⟨g1, hg1⟩ : ∃ g1, w.heap.size = g1 := ⟨_, rfl⟩
  have hd1 := Blk.new w 66 #[.bool false, .bool false, .bool false, .int .i64 0, .slice none 0 0]
  have hb1 := below_new w (.cells #[.bool false, .bool false, .bool false, .int .i64 0, .slice none 0 0] 66)
  rw [hw1, hg1] at hd1
  rw [hw1] at hb1
  have hp1 := hp.below hb1 hp.lt
  obtain ⟨w2, hw2⟩ : ∃ w2, w1.alloc (.cells #[.bool true, .bool true, .bool true, .int .i64 n, .slice none 0 0] 66) = w2 := ⟨_, rfl⟩
  obtain ⟨g2, hg2⟩ : ∃ g2, w1.heap.size = g2 := ⟨_, rfl⟩
  have hd2 := Blk.new w1 66 #[.bool true, .bool true, .bool true, .int .i64 n, .slice none 0 0]
  have hb2 := below_new w1 (.cells #[.bool true, .bool true, .bool true, .int .i64 n, .slice none 0 0] 66)
  rw [hw2, hg2] at hd2
  rw [hw2] at hb2
  have hd12 := hd1.below hb2 hd1.lt
  have HD1 := Lib.hid hd12
  have HD2 := Lib.hid hd2
  have Hb2 := Lib.hid (below_trans hb1 hb1.size hb2)
  have Hg1 := Lib.hid hg1
  have Hg12 := Lib.hid (show g1 < g2 from by have := hd1.lt; omega)
  obtain ⟨x0, x1, x2, x3, x4, x5, x6, x7, x8, x9, xa, xb, xc, xd, xe, xf⟩ := blk16 hp1
  obtain ⟨d0, d1, d2, d3, d4⟩ := blk5 hd2
  have hfz2 := fun i => hd2.frozen i
  obtain ⟨c0, c1, c2, c3, c4⟩ := blk5 hd12
  have hfz1 := fun i => hd12.frozen i
  clear hp hd1 hb1 hp1 hd2 hb2 hd12
  go_enter Try.func39, Try.ntmps39
  go_wp2_with fail
  with_reducible refine Calls.mono (clone14_nil _) ?_
  rintro r w3 ⟨rfl, hw3⟩
  have hd23 : Blk w3 g2 66 #[.bool true, .bool true, .bool true, .int .i64 n, .slice none 0 0] := by rw [hw3]; simpa using HD2.out.set_ 4 (.slice none 0 0)
  have hd13 : Blk w3 g1 66 #[.bool false, .bool false, .bool false, .int .i64 0, .slice none 0 0] := by rw [hw3]; exact HD1.out.grown (grown_set w2 g2 4 _) (fun e => by injection e with e; have := Hg12.out; omega)
  have HD23 := Lib.hid hd23
  have HD13 := Lib.hid hd13
  have Hb3 := Lib.hid (show Below w.heap.size w w3 by rw [hw3]; exact Hb2.out.setCell (p := ⟨g2, 4, none⟩) (by have := Hg12.out; have := Hg1.out; show w.heap.size ≤ g2; omega) _)
  clear x0 x1 x2 x3 x4 x5 x6 x7 x8 x9 xa xb xc xd xe xf d0 d1 d2 d3 d4 c0 c1 c2 c3 c4 hfz1 hfz2 hw3 hw1 hw2 hg1 hg2
  obtain ⟨d0, d1, d2, d3, d4⟩ := blk5 hd23
  have f4 := hd23.frozen 4
  clear hd23 hd13
  go_upto_region 5 with fail
  obtain ⟨w5, hw5⟩ : ∃ w5, w3.setCell ⟨g2, 4, none⟩ (.slice none 0 0) = w5 := ⟨_, rfl⟩
  rw [hw5]
  have hd25 : Blk w5 g2 66 #[.bool true, .bool true, .bool true, .int .i64 n, .slice none 0 0] := by rw [← hw5]; simpa using HD23.out.set_ 4 (.slice none 0 0)
  have hd15 : Blk w5 g1 66 #[.bool false, .bool false, .bool false, .int .i64 0, .slice none 0 0] := by rw [← hw5]; exact HD13.out.grown (grown_set w3 g2 4 _) (fun e => by injection e with e; have := Hg12.out; omega)
  have HD15 := Lib.hid hd15
  have Hb5 := Lib.hid (show Below w.heap.size w w5 by rw [← hw5]; exact Hb3.out.setCell (p := ⟨g2, 4, none⟩) (by have := Hg12.out; have := Hg1.out; show w.heap.size ≤ g2; omega) _)
  clear d0 d1 d2 d3 d4 f4 hw5
  obtain ⟨d0, d1, d2, d3, d4⟩ := blk5 hd25
  obtain ⟨c0, c1, c2, c3, c4⟩ := blk5 hd15
  have hfz := fun i => hd15.frozen i
  clear hd25 hd15
  go_wp2
  refine bodyPost_named (v := .tuple #[.agg #[.bool true, .bool true, .bool true, .int .i64 n, .slice none 0 0], .bool true]) (fun W => Blk W g1 66 #[.bool true, .bool true, .bool true, .int .i64 n, .slice none 0 0]) (Blk.set5 HD15.out _ _ _ _ _) (fun W hB => by
    obtain ⟨e0, e1, e2, e3, e4⟩ := blk5 hB
    simp [results, Try.results39, go_sem, e0, e1, e2, e3, e4]) rfl ?_
  exact ⟨rfl, below_set5 Hb5.out (by have := Hg1.out; omega) _ _ _ _ _⟩

set_option maxHeartbeats 4000000 in
set_option maxRecDepth 100000 in
theorem begin_self (p : Nat) (n0 n n' : Int) (A : Option Addr) (m c : Nat) (w : World) (hp : Blk w p 120 (exS n0 n)) :
    Calls Try.prog 77 #[.pointer (some ⟨p, 0, none⟩), .agg #[.bool true, .bool true, .bool true, .int .i64 n', .slice none 0 0], .slice A m c] w fun r w' => r = .returned (.int .i64 0) ∧ Below w.heap.size w w' := by
  obtain ⟨w1, hw1⟩ : ∃ w1, w.alloc (.cells #[.bool true, .bool true, .bool true, .int .i64 n', .slice none 0 0] 66) = w1 := ⟨_, rfl⟩
  obtain ⟨g1, hg1⟩ : ∃ g1, w.heap.size = g1 := ⟨_, rfl⟩
  have hd := Blk.new w 66 #[.bool true, .bool true, .bool true, .int .i64 n', .slice none 0 0]
  have hb1 := below_new w (.cells #[.bool true, .bool true, .bool true, .int .i64 n', .slice none 0 0] 66)
  rw [hw1, hg1] at hd
  rw [hw1] at hb1
  have Hp1 := Lib.hid (hp.below hb1 hp.lt)
  have Hd := Lib.hid hd
  have Hb1 := Lib.hid hb1
  obtain ⟨x0, x1, x2, x3, x4, x5, x6, x7, x8, x9, xa, xb, xc, xd, xe, xf⟩ := blk16 Hp1.out
  obtain ⟨d0, d1, d2, d3, d4⟩ := blk5 hd
  clear hp hb1 hd
  go_enter Try.func77, Try.ntmps77
  go_wp2
  go_quiet (fail)
  have hb2 := below_drewN (Below.refl w1.heap.size w1) nq
  obtain ⟨w2, hw2⟩ : ∃ w2, w1.drewN nq = w2 := ⟨_, rfl⟩
  rw [hw2] at hb2 ⊢
  have Hp2 := Lib.hid (Hp1.out.below hb2 Hp1.out.lt)
  have Hd2 := Lib.hid (Hd.out.below hb2 Hd.out.lt)
  have Hb2 := Lib.hid (below_trans Hb1.out Hb1.out.size hb2)
  clear x0 x1 x2 x3 x4 x5 x6 x7 x8 x9 xa xb xc xd xe xf d0 d1 d2 d3 d4 hb2 hw2 hw1 hg1
  obtain ⟨x0, x1, x2, x3, x4, x5, x6, x7, x8, x9, xa, xb, xc, xd, xe, xf⟩ := blk16 Hp2.out
  obtain ⟨d0, d1, d2, d3, d4⟩ := blk5 Hd2.out
  go_wp2
  go_quiet (fail)
  go_wp2
  go_ret
  exact ⟨rfl, below_drewN Hb2.out _⟩
set_option maxHeartbeats 4000000 in
set_option maxRecDepth 100000 in
theorem hear_self (p : Nat) (n0 n n' : Int) (hn : 0 ≤ n' ∧ n' ≤ 4294967295) (A : Option Addr) (m c : Nat) (w : World) (hp : Blk w p 120 (exS n0 n)) :
    Calls Try.prog 40 #[.pointer (some ⟨p, 0, none⟩), .agg #[.bool true, .bool true, .bool true, .int .i64 n', .slice none 0 0], .slice A m c] w fun r w' => r = .returned (.int .i64 0) ∧ Below w.heap.size w w' := by
  obtain ⟨w1, hw1⟩ : ∃ w1, w.alloc (.cells #[.bool true, .bool true, .bool true, .int .i64 n', .slice none 0 0] 66) = w1 := ⟨_, rfl⟩
  obtain ⟨g1, hg1⟩ : ∃ g1, w.heap.size = g1 := ⟨_, rfl⟩
  have hd := Blk.new w 66 #[.bool true, .bool true, .bool true, .int .i64 n', .slice none 0 0]
  have hb1 := below_new w (.cells #[.bool true, .bool true, .bool true, .int .i64 n', .slice none 0 0] 66)
  rw [hw1, hg1] at hd
  rw [hw1] at hb1
  obtain ⟨w2, hw2⟩ : ∃ w2, w1.alloc (.cells #[.bool true, .bool true, .bool true, .int .i64 n'] 118) = w2 := ⟨_, rfl⟩
  have hb2 := below_new w1 (.cells #[.bool true, .bool true, .bool true, .int .i64 n'] 118)
  rw [hw2] at hb2
  have hp1 := hp.below hb1 hp.lt
  have hp2 := hp1.below hb2 hp1.lt
  have hd2 := hd.below hb2 hd.lt
  have Hb2 := Lib.hid (below_trans hb1 hb1.size hb2)
  have HB := Lib.hid (begin_self p n0 n n' A m c w2 hp2)
  obtain ⟨h0, h1⟩ := hn
  obtain ⟨x0, x1, x2, x3, x4, x5, x6, x7, x8, x9, xa, xb, xc, xd, xe, xf⟩ := blk16 hp2
  obtain ⟨d0, d1, d2, d3, d4⟩ := blk5 hd
  obtain ⟨e0, e1, e2, e3, e4⟩ := blk5 hd2
  clear hp hb1 hd hb2 hp1 hp2 hd2
  go_enter Try.func40, Try.ntmps40
  go_wp2_with fail
  with_reducible refine Calls.mono HB.out ?_
  rintro r w3 ⟨rfl, hb3⟩
  have Hb3 := Lib.hid (below_trans Hb2.out Hb2.out.size hb3)
  clear hb3 d0 d1 d2 d3 d4 e0 e1 e2 e3 e4 x0 x1 x2 x3 x4 x5 x6 x7 x8 x9 xa xb xc xd xe xf
  go_wp2
  go_ret
  exact ⟨rfl, Hb3.out⟩

end Go.Proofs.Ytbffhdlfplgccaa
