/-
  Layer 14: the document's exchange hears the same again, or a piece that is bad: way by way.
-/
import Derived.Test.YtfpjkeddcagfcaaBag
namespace Go.Proofs.Ytfpjkeddcagfcaa
open Go.RowKit Go.Sort

theorem bne_t14 {q n : Int} (h : (q == n) = false) : (q != n) = true := by simp [bne, h]
theorem bne_f14 {q n : Int} (h : (q == n) = true) : (q != n) = false := by simp [bne, h]
set_option maxHeartbeats 8000000 in
set_option maxRecDepth 100000 in
theorem rxAgain_true (p : Nat) (a b n : Int) (i m s dn : Bool) (l1 l2 l3 : Bool) (l4 : Int) (LA : Option Addr) (Ln Lc : Nat) (si sm ss : Bool) (sq : Int) (hv pv : Value) (j : Nat) (q : Int) (hA : Option Addr) (nh hc : Nat) (A : Option Addr) (nn cap : Nat) (hq0 : ¬ q < 0) (hq2 : ¬ 4294967296 ≤ q) (hn0 : 0 ≤ n) (hn1 : n ≤ 4294967295) (ht : decide (i = l1 ∧ m = l2 ∧ s = l3 ∧ q = l4) = true) (w : World) (hp : Blk w p 68 (rxA a b n true true dn l1 l2 l3 l4 (.slice LA Ln Lc) si sm ss sq hv pv j)) :
    Calls Try.prog 12 #[.pointer (some ⟨p, 0, none⟩), .agg #[.bool i, .bool m, .bool s, .int .i64 q, .slice hA nh hc], .slice A nn cap] w fun r w' => r = .returned (.int .i64 0) ∧ Below w.heap.size w w' := by
  obtain ⟨w1, hw1⟩ : ∃ w1, w.alloc (.cells #[.bool i, .bool m, .bool s, .int .i64 q, .slice hA nh hc] 33) = w1 := ⟨_, rfl⟩
  obtain ⟨g1, hg1⟩ : ∃ g1, w.heap.size = g1 := ⟨_, rfl⟩
  have hd := Blk.new w 33 #[.bool i, .bool m, .bool s, .int .i64 q, .slice hA nh hc]
  have hb1 := below_new w (.cells #[.bool i, .bool m, .bool s, .int .i64 q, .slice hA nh hc] 33)
  rw [hw1, hg1] at hd
  rw [hw1] at hb1
  have hp1 := hp.below hb1 hp.lt
  have Hb1 := Lib.hid hb1
  have HP1 := Lib.hid hp1
  have HD := Lib.hid hd
  have Hpg := Lib.hid (show p ≠ g1 from by have := hp.lt; omega)
  have hrem : (n + 1).tmod 4294967296 = (n + 1) % 4294967296 := Int.tmod_eq_emod_of_nonneg (by omega)
  have HA := Lib.hid (fun W => alike_any i m s q (.slice hA nh hc) l1 l2 l3 l4 (.slice LA Ln Lc) ht ⟨_, _, _, rfl⟩ ⟨_, _, _, rfl⟩ W)
  obtain ⟨x0, x1, x2, x3, x4, x5, x6, x7, x8, x9, xa, xb, xc, xd, xe, xf, xg, xh⟩ := blk18 hp1
  obtain ⟨d0, d1, d2, d3, d4⟩ := blk5 hd
  clear hb1 hd hp1 xb xc xd xe xf xg xh ht
  go_enter Try.func12, Try.ntmps12
  go_wp2_with fail
  go_quiet (exact top14_q _ _)
  go_wp2_with fail
  obtain ⟨w2, hw2⟩ : ∃ w2, w1.drewN nq = w2 := ⟨_, rfl⟩
  rw [hw2]
  have hb2 : Below w1.heap.size w1 w2 := by rw [← hw2]; exact below_drewN (Below.refl _ _) _
  have HP2 := Lib.hid (HP1.out.below hb2 HP1.out.lt)
  have HD2 := Lib.hid (HD.out.below hb2 HD.out.lt)
  have Hb2 := Lib.hid (below_trans Hb1.out Hb1.out.size hb2)
  have CA := Lib.hid (fun dd os => Calls.regrown_of (w := w2) (d := dd) (os := os) (HA.out _))
  clear x0 x1 x2 x3 x4 x5 x6 x7 x8 x9 xa d0 d1 d2 d3 d4 hw2 hb2 HP1 HD HA
  obtain ⟨x0, x1, x2, x3, x4, x5, x6, x7, x8, x9, xa, xb, xc, xd, xe, xf, xg, xh⟩ := blk18 HP2.out
  obtain ⟨d0, d1, d2, d3, d4⟩ := blk5 HD2.out
  have d0 := cell_regrown d0
  have d1 := cell_regrown d1
  have d2 := cell_regrown d2
  have d3 := cell_regrown d3
  have d4 := cell_regrown d4
  have x6 := cell_regrown x6
  have x7 := cell_regrown x7
  have x8 := cell_regrown x8
  have x9 := cell_regrown x9
  have xa := cell_regrown xa
  clear x0 x1 x2 x3 x4 x5 xb xc xd xe xf xg xh
  refine wp_region_quiet_below (by kernel_rfl) (by kernel_rfl) ?_
  repeat (go_big_quiet_step (exact CA.out _ _))
  refine wpQuiet_nil ?_
  rintro w3 ⟨⟨dq, osq⟩, hw3⟩
  have hb3 := below_regrown w2 dq osq
  rw [← hw3] at hb3
  have HP3 := Lib.hid (HP2.out.below hb3 HP2.out.lt)
  have HD3 := Lib.hid (HD2.out.below hb3 HD2.out.lt)
  have Hb3 := Lib.hid (below_trans Hb2.out Hb2.out.size hb3)
  clear d0 d1 d2 d3 d4 x6 x7 x8 x9 xa hw3 hb3 CA HP2 HD2
  obtain ⟨x0, x1, x2, x3, x4, x5, x6, x7, x8, x9, xa, xb, xc, xd, xe, xf, xg, xh⟩ := blk18 HP3.out
  obtain ⟨d0, d1, d2, d3, d4⟩ := blk5 HD3.out
  clear hp
  go_wp2
  go_ret
  exact ⟨rfl, Hb3.out⟩
set_option maxHeartbeats 8000000 in
set_option maxRecDepth 100000 in
theorem rxAgain_false (p : Nat) (a b n : Int) (i m s dn : Bool) (l1 l2 l3 : Bool) (l4 : Int) (LA : Option Addr) (Ln Lc : Nat) (si sm ss : Bool) (sq : Int) (hv pv : Value) (j : Nat) (q : Int) (hA : Option Addr) (nh hc : Nat) (A : Option Addr) (nn cap : Nat) (hq0 : ¬ q < 0) (hq2 : ¬ 4294967296 ≤ q) (hn0 : 0 ≤ n) (hn1 : n ≤ 4294967295) (ht : decide (i = l1 ∧ m = l2 ∧ s = l3 ∧ q = l4) = true) (w : World) (hp : Blk w p 68 (rxA a b n true false dn l1 l2 l3 l4 (.slice LA Ln Lc) si sm ss sq hv pv j)) :
    Calls Try.prog 12 #[.pointer (some ⟨p, 0, none⟩), .agg #[.bool i, .bool m, .bool s, .int .i64 q, .slice hA nh hc], .slice A nn cap] w fun r w' => r = .returned (.int .i64 1) ∧ Below w.heap.size w w' := by
  obtain ⟨w1, hw1⟩ : ∃ w1, w.alloc (.cells #[.bool i, .bool m, .bool s, .int .i64 q, .slice hA nh hc] 33) = w1 := ⟨_, rfl⟩
  obtain ⟨g1, hg1⟩ : ∃ g1, w.heap.size = g1 := ⟨_, rfl⟩
  have hd := Blk.new w 33 #[.bool i, .bool m, .bool s, .int .i64 q, .slice hA nh hc]
  have hb1 := below_new w (.cells #[.bool i, .bool m, .bool s, .int .i64 q, .slice hA nh hc] 33)
  rw [hw1, hg1] at hd
  rw [hw1] at hb1
  have hp1 := hp.below hb1 hp.lt
  have Hb1 := Lib.hid hb1
  have HP1 := Lib.hid hp1
  have HD := Lib.hid hd
  have Hpg := Lib.hid (show p ≠ g1 from by have := hp.lt; omega)
  have hrem : (n + 1).tmod 4294967296 = (n + 1) % 4294967296 := Int.tmod_eq_emod_of_nonneg (by omega)
  have HA := Lib.hid (fun W => alike_any i m s q (.slice hA nh hc) l1 l2 l3 l4 (.slice LA Ln Lc) ht ⟨_, _, _, rfl⟩ ⟨_, _, _, rfl⟩ W)
  obtain ⟨x0, x1, x2, x3, x4, x5, x6, x7, x8, x9, xa, xb, xc, xd, xe, xf, xg, xh⟩ := blk18 hp1
  obtain ⟨d0, d1, d2, d3, d4⟩ := blk5 hd
  clear hb1 hd hp1 xb xc xd xe xf xg xh ht
  go_enter Try.func12, Try.ntmps12
  go_wp2_with fail
  go_quiet (exact top14_q _ _)
  go_wp2_with fail
  obtain ⟨w2, hw2⟩ : ∃ w2, w1.drewN nq = w2 := ⟨_, rfl⟩
  rw [hw2]
  have hb2 : Below w1.heap.size w1 w2 := by rw [← hw2]; exact below_drewN (Below.refl _ _) _
  have HP2 := Lib.hid (HP1.out.below hb2 HP1.out.lt)
  have HD2 := Lib.hid (HD.out.below hb2 HD.out.lt)
  have Hb2 := Lib.hid (below_trans Hb1.out Hb1.out.size hb2)
  have CA := Lib.hid (fun dd os => Calls.regrown_of (w := w2) (d := dd) (os := os) (HA.out _))
  clear x0 x1 x2 x3 x4 x5 x6 x7 x8 x9 xa d0 d1 d2 d3 d4 hw2 hb2 HP1 HD HA
  obtain ⟨x0, x1, x2, x3, x4, x5, x6, x7, x8, x9, xa, xb, xc, xd, xe, xf, xg, xh⟩ := blk18 HP2.out
  obtain ⟨d0, d1, d2, d3, d4⟩ := blk5 HD2.out
  have d0 := cell_regrown d0
  have d1 := cell_regrown d1
  have d2 := cell_regrown d2
  have d3 := cell_regrown d3
  have d4 := cell_regrown d4
  have x6 := cell_regrown x6
  have x7 := cell_regrown x7
  have x8 := cell_regrown x8
  have x9 := cell_regrown x9
  have xa := cell_regrown xa
  clear x0 x1 x2 x3 x4 x5 xb xc xd xe xf xg xh
  refine wp_region_quiet_below (by kernel_rfl) (by kernel_rfl) ?_
  repeat (go_big_quiet_step (exact CA.out _ _))
  refine wpQuiet_nil ?_
  rintro w3 ⟨⟨dq, osq⟩, hw3⟩
  have hb3 := below_regrown w2 dq osq
  rw [← hw3] at hb3
  have HP3 := Lib.hid (HP2.out.below hb3 HP2.out.lt)
  have HD3 := Lib.hid (HD2.out.below hb3 HD2.out.lt)
  have Hb3 := Lib.hid (below_trans Hb2.out Hb2.out.size hb3)
  clear d0 d1 d2 d3 d4 x6 x7 x8 x9 xa hw3 hb3 CA HP2 HD2
  obtain ⟨x0, x1, x2, x3, x4, x5, x6, x7, x8, x9, xa, xb, xc, xd, xe, xf, xg, xh⟩ := blk18 HP3.out
  obtain ⟨d0, d1, d2, d3, d4⟩ := blk5 HD3.out
  clear hp
  go_wp2
  go_ret
  exact ⟨rfl, Hb3.out⟩
set_option maxHeartbeats 8000000 in
set_option maxRecDepth 100000 in
theorem rxBad_dn_true (p : Nat) (a b n : Int) (i m s : Bool) (l1 l2 l3 : Bool) (l4 : Int) (LA : Option Addr) (Ln Lc : Nat) (si sm ss : Bool) (sq : Int) (hv pv : Value) (j : Nat) (q : Int) (hA : Option Addr) (nh hc : Nat) (A : Option Addr) (nn cap : Nat) (hq0 : ¬ q < 0) (hq2 : ¬ 4294967296 ≤ q) (hn0 : 0 ≤ n) (hn1 : n ≤ 4294967295) (ht : decide (i = l1 ∧ m = l2 ∧ s = l3 ∧ q = l4) = false) (w : World) (hp : Blk w p 68 (rxA a b n true true true l1 l2 l3 l4 (.slice LA Ln Lc) si sm ss sq hv pv j)) :
    Calls Try.prog 12 #[.pointer (some ⟨p, 0, none⟩), .agg #[.bool i, .bool m, .bool s, .int .i64 q, .slice hA nh hc], .slice A nn cap] w fun r w' => r = .returned (.int .i64 3) ∧ Below w.heap.size w w' := by
  obtain ⟨w1, hw1⟩ : ∃ w1, w.alloc (.cells #[.bool i, .bool m, .bool s, .int .i64 q, .slice hA nh hc] 33) = w1 := ⟨_, rfl⟩
  obtain ⟨g1, hg1⟩ : ∃ g1, w.heap.size = g1 := ⟨_, rfl⟩
  have hd := Blk.new w 33 #[.bool i, .bool m, .bool s, .int .i64 q, .slice hA nh hc]
  have hb1 := below_new w (.cells #[.bool i, .bool m, .bool s, .int .i64 q, .slice hA nh hc] 33)
  rw [hw1, hg1] at hd
  rw [hw1] at hb1
  have hp1 := hp.below hb1 hp.lt
  have Hb1 := Lib.hid hb1
  have HP1 := Lib.hid hp1
  have HD := Lib.hid hd
  have Hpg := Lib.hid (show p ≠ g1 from by have := hp.lt; omega)
  have hrem : (n + 1).tmod 4294967296 = (n + 1) % 4294967296 := Int.tmod_eq_emod_of_nonneg (by omega)
  have HA := Lib.hid (fun W => alike_any i m s q (.slice hA nh hc) l1 l2 l3 l4 (.slice LA Ln Lc) ht ⟨_, _, _, rfl⟩ ⟨_, _, _, rfl⟩ W)
  obtain ⟨x0, x1, x2, x3, x4, x5, x6, x7, x8, x9, xa, xb, xc, xd, xe, xf, xg, xh⟩ := blk18 hp1
  obtain ⟨d0, d1, d2, d3, d4⟩ := blk5 hd
  clear hb1 hd hp1 xb xc xd xe xf xg xh ht
  go_enter Try.func12, Try.ntmps12
  go_wp2_with fail
  go_quiet (exact top14_q _ _)
  go_wp2_with fail
  obtain ⟨w2, hw2⟩ : ∃ w2, w1.drewN nq = w2 := ⟨_, rfl⟩
  rw [hw2]
  have hb2 : Below w1.heap.size w1 w2 := by rw [← hw2]; exact below_drewN (Below.refl _ _) _
  have HP2 := Lib.hid (HP1.out.below hb2 HP1.out.lt)
  have HD2 := Lib.hid (HD.out.below hb2 HD.out.lt)
  have Hb2 := Lib.hid (below_trans Hb1.out Hb1.out.size hb2)
  have CA := Lib.hid (fun dd os => Calls.regrown_of (w := w2) (d := dd) (os := os) (HA.out _))
  clear x0 x1 x2 x3 x4 x5 x6 x7 x8 x9 xa d0 d1 d2 d3 d4 hw2 hb2 HP1 HD HA
  obtain ⟨x0, x1, x2, x3, x4, x5, x6, x7, x8, x9, xa, xb, xc, xd, xe, xf, xg, xh⟩ := blk18 HP2.out
  obtain ⟨d0, d1, d2, d3, d4⟩ := blk5 HD2.out
  have d0 := cell_regrown d0
  have d1 := cell_regrown d1
  have d2 := cell_regrown d2
  have d3 := cell_regrown d3
  have d4 := cell_regrown d4
  have x6 := cell_regrown x6
  have x7 := cell_regrown x7
  have x8 := cell_regrown x8
  have x9 := cell_regrown x9
  have xa := cell_regrown xa
  clear x0 x1 x2 x3 x4 x5 xb xc xd xe xf xg xh
  refine wp_region_quiet_below (by kernel_rfl) (by kernel_rfl) ?_
  repeat (go_big_quiet_step (exact CA.out _ _))
  refine wpQuiet_nil ?_
  rintro w3 ⟨⟨dq, osq⟩, hw3⟩
  have hb3 := below_regrown w2 dq osq
  rw [← hw3] at hb3
  have HP3 := Lib.hid (HP2.out.below hb3 HP2.out.lt)
  have HD3 := Lib.hid (HD2.out.below hb3 HD2.out.lt)
  have Hb3 := Lib.hid (below_trans Hb2.out Hb2.out.size hb3)
  clear d0 d1 d2 d3 d4 x6 x7 x8 x9 xa hw3 hb3 CA HP2 HD2
  obtain ⟨x0, x1, x2, x3, x4, x5, x6, x7, x8, x9, xa, xb, xc, xd, xe, xf, xg, xh⟩ := blk18 HP3.out
  obtain ⟨d0, d1, d2, d3, d4⟩ := blk5 HD3.out
  clear hp
  go_wp2_with fail
  go_quiet (fail)
  go_wp2
  go_ret
  exact ⟨rfl, by first | exact below_drewN Hb3.out _ | exact below_drewN (below_drewN Hb3.out _) _⟩
set_option maxHeartbeats 8000000 in
set_option maxRecDepth 100000 in
theorem rxBad_dn_false (p : Nat) (a b n : Int) (i m s : Bool) (l1 l2 l3 : Bool) (l4 : Int) (LA : Option Addr) (Ln Lc : Nat) (si sm ss : Bool) (sq : Int) (hv pv : Value) (j : Nat) (q : Int) (hA : Option Addr) (nh hc : Nat) (A : Option Addr) (nn cap : Nat) (hq0 : ¬ q < 0) (hq2 : ¬ 4294967296 ≤ q) (hn0 : 0 ≤ n) (hn1 : n ≤ 4294967295) (ht : decide (i = l1 ∧ m = l2 ∧ s = l3 ∧ q = l4) = false) (w : World) (hp : Blk w p 68 (rxA a b n true false true l1 l2 l3 l4 (.slice LA Ln Lc) si sm ss sq hv pv j)) :
    Calls Try.prog 12 #[.pointer (some ⟨p, 0, none⟩), .agg #[.bool i, .bool m, .bool s, .int .i64 q, .slice hA nh hc], .slice A nn cap] w fun r w' => r = .returned (.int .i64 3) ∧ Below w.heap.size w w' := by
  obtain ⟨w1, hw1⟩ : ∃ w1, w.alloc (.cells #[.bool i, .bool m, .bool s, .int .i64 q, .slice hA nh hc] 33) = w1 := ⟨_, rfl⟩
  obtain ⟨g1, hg1⟩ : ∃ g1, w.heap.size = g1 := ⟨_, rfl⟩
  have hd := Blk.new w 33 #[.bool i, .bool m, .bool s, .int .i64 q, .slice hA nh hc]
  have hb1 := below_new w (.cells #[.bool i, .bool m, .bool s, .int .i64 q, .slice hA nh hc] 33)
  rw [hw1, hg1] at hd
  rw [hw1] at hb1
  have hp1 := hp.below hb1 hp.lt
  have Hb1 := Lib.hid hb1
  have HP1 := Lib.hid hp1
  have HD := Lib.hid hd
  have Hpg := Lib.hid (show p ≠ g1 from by have := hp.lt; omega)
  have hrem : (n + 1).tmod 4294967296 = (n + 1) % 4294967296 := Int.tmod_eq_emod_of_nonneg (by omega)
  have HA := Lib.hid (fun W => alike_any i m s q (.slice hA nh hc) l1 l2 l3 l4 (.slice LA Ln Lc) ht ⟨_, _, _, rfl⟩ ⟨_, _, _, rfl⟩ W)
  obtain ⟨x0, x1, x2, x3, x4, x5, x6, x7, x8, x9, xa, xb, xc, xd, xe, xf, xg, xh⟩ := blk18 hp1
  obtain ⟨d0, d1, d2, d3, d4⟩ := blk5 hd
  clear hb1 hd hp1 xb xc xd xe xf xg xh ht
  go_enter Try.func12, Try.ntmps12
  go_wp2_with fail
  go_quiet (exact top14_q _ _)
  go_wp2_with fail
  obtain ⟨w2, hw2⟩ : ∃ w2, w1.drewN nq = w2 := ⟨_, rfl⟩
  rw [hw2]
  have hb2 : Below w1.heap.size w1 w2 := by rw [← hw2]; exact below_drewN (Below.refl _ _) _
  have HP2 := Lib.hid (HP1.out.below hb2 HP1.out.lt)
  have HD2 := Lib.hid (HD.out.below hb2 HD.out.lt)
  have Hb2 := Lib.hid (below_trans Hb1.out Hb1.out.size hb2)
  have CA := Lib.hid (fun dd os => Calls.regrown_of (w := w2) (d := dd) (os := os) (HA.out _))
  clear x0 x1 x2 x3 x4 x5 x6 x7 x8 x9 xa d0 d1 d2 d3 d4 hw2 hb2 HP1 HD HA
  obtain ⟨x0, x1, x2, x3, x4, x5, x6, x7, x8, x9, xa, xb, xc, xd, xe, xf, xg, xh⟩ := blk18 HP2.out
  obtain ⟨d0, d1, d2, d3, d4⟩ := blk5 HD2.out
  have d0 := cell_regrown d0
  have d1 := cell_regrown d1
  have d2 := cell_regrown d2
  have d3 := cell_regrown d3
  have d4 := cell_regrown d4
  have x6 := cell_regrown x6
  have x7 := cell_regrown x7
  have x8 := cell_regrown x8
  have x9 := cell_regrown x9
  have xa := cell_regrown xa
  clear x0 x1 x2 x3 x4 x5 xb xc xd xe xf xg xh
  refine wp_region_quiet_below (by kernel_rfl) (by kernel_rfl) ?_
  repeat (go_big_quiet_step (exact CA.out _ _))
  refine wpQuiet_nil ?_
  rintro w3 ⟨⟨dq, osq⟩, hw3⟩
  have hb3 := below_regrown w2 dq osq
  rw [← hw3] at hb3
  have HP3 := Lib.hid (HP2.out.below hb3 HP2.out.lt)
  have HD3 := Lib.hid (HD2.out.below hb3 HD2.out.lt)
  have Hb3 := Lib.hid (below_trans Hb2.out Hb2.out.size hb3)
  clear d0 d1 d2 d3 d4 x6 x7 x8 x9 xa hw3 hb3 CA HP2 HD2
  obtain ⟨x0, x1, x2, x3, x4, x5, x6, x7, x8, x9, xa, xb, xc, xd, xe, xf, xg, xh⟩ := blk18 HP3.out
  obtain ⟨d0, d1, d2, d3, d4⟩ := blk5 HD3.out
  clear hp
  go_wp2_with fail
  go_quiet (exact top14_q _ _)
  go_wp2_with fail
  go_quiet (fail)
  go_wp2
  go_ret
  exact ⟨rfl, by first | exact below_drewN Hb3.out _ | exact below_drewN (below_drewN Hb3.out _) _⟩
set_option maxHeartbeats 8000000 in
set_option maxRecDepth 100000 in
theorem rxBad_in_true (p : Nat) (a b n : Int) (m s : Bool) (l1 l2 l3 : Bool) (l4 : Int) (LA : Option Addr) (Ln Lc : Nat) (si sm ss : Bool) (sq : Int) (hv pv : Value) (j : Nat) (q : Int) (hA : Option Addr) (nh hc : Nat) (A : Option Addr) (nn cap : Nat) (hq0 : ¬ q < 0) (hq2 : ¬ 4294967296 ≤ q) (hn0 : 0 ≤ n) (hn1 : n ≤ 4294967295) (ht : decide (true = l1 ∧ m = l2 ∧ s = l3 ∧ q = l4) = false) (w : World) (hp : Blk w p 68 (rxA a b n true true false l1 l2 l3 l4 (.slice LA Ln Lc) si sm ss sq hv pv j)) :
    Calls Try.prog 12 #[.pointer (some ⟨p, 0, none⟩), .agg #[.bool true, .bool m, .bool s, .int .i64 q, .slice hA nh hc], .slice A nn cap] w fun r w' => r = .returned (.int .i64 3) ∧ Below w.heap.size w w' := by
  obtain ⟨w1, hw1⟩ : ∃ w1, w.alloc (.cells #[.bool true, .bool m, .bool s, .int .i64 q, .slice hA nh hc] 33) = w1 := ⟨_, rfl⟩
  obtain ⟨g1, hg1⟩ : ∃ g1, w.heap.size = g1 := ⟨_, rfl⟩
  have hd := Blk.new w 33 #[.bool true, .bool m, .bool s, .int .i64 q, .slice hA nh hc]
  have hb1 := below_new w (.cells #[.bool true, .bool m, .bool s, .int .i64 q, .slice hA nh hc] 33)
  rw [hw1, hg1] at hd
  rw [hw1] at hb1
  have hp1 := hp.below hb1 hp.lt
  have Hb1 := Lib.hid hb1
  have HP1 := Lib.hid hp1
  have HD := Lib.hid hd
  have Hpg := Lib.hid (show p ≠ g1 from by have := hp.lt; omega)
  have hrem : (n + 1).tmod 4294967296 = (n + 1) % 4294967296 := Int.tmod_eq_emod_of_nonneg (by omega)
  have HA := Lib.hid (fun W => alike_any true m s q (.slice hA nh hc) l1 l2 l3 l4 (.slice LA Ln Lc) ht ⟨_, _, _, rfl⟩ ⟨_, _, _, rfl⟩ W)
  obtain ⟨x0, x1, x2, x3, x4, x5, x6, x7, x8, x9, xa, xb, xc, xd, xe, xf, xg, xh⟩ := blk18 hp1
  obtain ⟨d0, d1, d2, d3, d4⟩ := blk5 hd
  clear hb1 hd hp1 xb xc xd xe xf xg xh ht
  go_enter Try.func12, Try.ntmps12
  go_wp2_with fail
  go_quiet (exact top14_q _ _)
  go_wp2_with fail
  obtain ⟨w2, hw2⟩ : ∃ w2, w1.drewN nq = w2 := ⟨_, rfl⟩
  rw [hw2]
  have hb2 : Below w1.heap.size w1 w2 := by rw [← hw2]; exact below_drewN (Below.refl _ _) _
  have HP2 := Lib.hid (HP1.out.below hb2 HP1.out.lt)
  have HD2 := Lib.hid (HD.out.below hb2 HD.out.lt)
  have Hb2 := Lib.hid (below_trans Hb1.out Hb1.out.size hb2)
  have CA := Lib.hid (fun dd os => Calls.regrown_of (w := w2) (d := dd) (os := os) (HA.out _))
  clear x0 x1 x2 x3 x4 x5 x6 x7 x8 x9 xa d0 d1 d2 d3 d4 hw2 hb2 HP1 HD HA
  obtain ⟨x0, x1, x2, x3, x4, x5, x6, x7, x8, x9, xa, xb, xc, xd, xe, xf, xg, xh⟩ := blk18 HP2.out
  obtain ⟨d0, d1, d2, d3, d4⟩ := blk5 HD2.out
  have d0 := cell_regrown d0
  have d1 := cell_regrown d1
  have d2 := cell_regrown d2
  have d3 := cell_regrown d3
  have d4 := cell_regrown d4
  have x6 := cell_regrown x6
  have x7 := cell_regrown x7
  have x8 := cell_regrown x8
  have x9 := cell_regrown x9
  have xa := cell_regrown xa
  clear x0 x1 x2 x3 x4 x5 xb xc xd xe xf xg xh
  refine wp_region_quiet_below (by kernel_rfl) (by kernel_rfl) ?_
  repeat (go_big_quiet_step (exact CA.out _ _))
  refine wpQuiet_nil ?_
  rintro w3 ⟨⟨dq, osq⟩, hw3⟩
  have hb3 := below_regrown w2 dq osq
  rw [← hw3] at hb3
  have HP3 := Lib.hid (HP2.out.below hb3 HP2.out.lt)
  have HD3 := Lib.hid (HD2.out.below hb3 HD2.out.lt)
  have Hb3 := Lib.hid (below_trans Hb2.out Hb2.out.size hb3)
  clear d0 d1 d2 d3 d4 x6 x7 x8 x9 xa hw3 hb3 CA HP2 HD2
  obtain ⟨x0, x1, x2, x3, x4, x5, x6, x7, x8, x9, xa, xb, xc, xd, xe, xf, xg, xh⟩ := blk18 HP3.out
  obtain ⟨d0, d1, d2, d3, d4⟩ := blk5 HD3.out
  clear hp
  go_wp2_with fail
  go_quiet (fail)
  go_wp2
  go_ret
  exact ⟨rfl, by first | exact below_drewN Hb3.out _ | exact below_drewN (below_drewN Hb3.out _) _⟩
set_option maxHeartbeats 8000000 in
set_option maxRecDepth 100000 in
theorem rxBad_in_false (p : Nat) (a b n : Int) (m s : Bool) (l1 l2 l3 : Bool) (l4 : Int) (LA : Option Addr) (Ln Lc : Nat) (si sm ss : Bool) (sq : Int) (hv pv : Value) (j : Nat) (q : Int) (hA : Option Addr) (nh hc : Nat) (A : Option Addr) (nn cap : Nat) (hq0 : ¬ q < 0) (hq2 : ¬ 4294967296 ≤ q) (hn0 : 0 ≤ n) (hn1 : n ≤ 4294967295) (ht : decide (true = l1 ∧ m = l2 ∧ s = l3 ∧ q = l4) = false) (w : World) (hp : Blk w p 68 (rxA a b n true false false l1 l2 l3 l4 (.slice LA Ln Lc) si sm ss sq hv pv j)) :
    Calls Try.prog 12 #[.pointer (some ⟨p, 0, none⟩), .agg #[.bool true, .bool m, .bool s, .int .i64 q, .slice hA nh hc], .slice A nn cap] w fun r w' => r = .returned (.int .i64 3) ∧ Below w.heap.size w w' := by
  obtain ⟨w1, hw1⟩ : ∃ w1, w.alloc (.cells #[.bool true, .bool m, .bool s, .int .i64 q, .slice hA nh hc] 33) = w1 := ⟨_, rfl⟩
  obtain ⟨g1, hg1⟩ : ∃ g1, w.heap.size = g1 := ⟨_, rfl⟩
  have hd := Blk.new w 33 #[.bool true, .bool m, .bool s, .int .i64 q, .slice hA nh hc]
  have hb1 := below_new w (.cells #[.bool true, .bool m, .bool s, .int .i64 q, .slice hA nh hc] 33)
  rw [hw1, hg1] at hd
  rw [hw1] at hb1
  have hp1 := hp.below hb1 hp.lt
  have Hb1 := Lib.hid hb1
  have HP1 := Lib.hid hp1
  have HD := Lib.hid hd
  have Hpg := Lib.hid (show p ≠ g1 from by have := hp.lt; omega)
  have hrem : (n + 1).tmod 4294967296 = (n + 1) % 4294967296 := Int.tmod_eq_emod_of_nonneg (by omega)
  have HA := Lib.hid (fun W => alike_any true m s q (.slice hA nh hc) l1 l2 l3 l4 (.slice LA Ln Lc) ht ⟨_, _, _, rfl⟩ ⟨_, _, _, rfl⟩ W)
  obtain ⟨x0, x1, x2, x3, x4, x5, x6, x7, x8, x9, xa, xb, xc, xd, xe, xf, xg, xh⟩ := blk18 hp1
  obtain ⟨d0, d1, d2, d3, d4⟩ := blk5 hd
  clear hb1 hd hp1 xb xc xd xe xf xg xh ht
  go_enter Try.func12, Try.ntmps12
  go_wp2_with fail
  go_quiet (exact top14_q _ _)
  go_wp2_with fail
  obtain ⟨w2, hw2⟩ : ∃ w2, w1.drewN nq = w2 := ⟨_, rfl⟩
  rw [hw2]
  have hb2 : Below w1.heap.size w1 w2 := by rw [← hw2]; exact below_drewN (Below.refl _ _) _
  have HP2 := Lib.hid (HP1.out.below hb2 HP1.out.lt)
  have HD2 := Lib.hid (HD.out.below hb2 HD.out.lt)
  have Hb2 := Lib.hid (below_trans Hb1.out Hb1.out.size hb2)
  have CA := Lib.hid (fun dd os => Calls.regrown_of (w := w2) (d := dd) (os := os) (HA.out _))
  clear x0 x1 x2 x3 x4 x5 x6 x7 x8 x9 xa d0 d1 d2 d3 d4 hw2 hb2 HP1 HD HA
  obtain ⟨x0, x1, x2, x3, x4, x5, x6, x7, x8, x9, xa, xb, xc, xd, xe, xf, xg, xh⟩ := blk18 HP2.out
  obtain ⟨d0, d1, d2, d3, d4⟩ := blk5 HD2.out
  have d0 := cell_regrown d0
  have d1 := cell_regrown d1
  have d2 := cell_regrown d2
  have d3 := cell_regrown d3
  have d4 := cell_regrown d4
  have x6 := cell_regrown x6
  have x7 := cell_regrown x7
  have x8 := cell_regrown x8
  have x9 := cell_regrown x9
  have xa := cell_regrown xa
  clear x0 x1 x2 x3 x4 x5 xb xc xd xe xf xg xh
  refine wp_region_quiet_below (by kernel_rfl) (by kernel_rfl) ?_
  repeat (go_big_quiet_step (exact CA.out _ _))
  refine wpQuiet_nil ?_
  rintro w3 ⟨⟨dq, osq⟩, hw3⟩
  have hb3 := below_regrown w2 dq osq
  rw [← hw3] at hb3
  have HP3 := Lib.hid (HP2.out.below hb3 HP2.out.lt)
  have HD3 := Lib.hid (HD2.out.below hb3 HD2.out.lt)
  have Hb3 := Lib.hid (below_trans Hb2.out Hb2.out.size hb3)
  clear d0 d1 d2 d3 d4 x6 x7 x8 x9 xa hw3 hb3 CA HP2 HD2
  obtain ⟨x0, x1, x2, x3, x4, x5, x6, x7, x8, x9, xa, xb, xc, xd, xe, xf, xg, xh⟩ := blk18 HP3.out
  obtain ⟨d0, d1, d2, d3, d4⟩ := blk5 HD3.out
  clear hp
  go_wp2_with fail
  go_quiet (exact top14_q _ _)
  go_wp2_with fail
  go_quiet (fail)
  go_wp2
  go_ret
  exact ⟨rfl, by first | exact below_drewN Hb3.out _ | exact below_drewN (below_drewN Hb3.out _) _⟩
set_option maxHeartbeats 8000000 in
set_option maxRecDepth 100000 in
theorem rxBad_ms_true (p : Nat) (a b n : Int) (m : Bool) (l1 l2 l3 : Bool) (l4 : Int) (LA : Option Addr) (Ln Lc : Nat) (si sm ss : Bool) (sq : Int) (hv pv : Value) (j : Nat) (q : Int) (hA : Option Addr) (nh hc : Nat) (A : Option Addr) (nn cap : Nat) (hq0 : ¬ q < 0) (hq2 : ¬ 4294967296 ≤ q) (hn0 : 0 ≤ n) (hn1 : n ≤ 4294967295) (ht : decide (false = l1 ∧ m = l2 ∧ true = l3 ∧ q = l4) = false) (w : World) (hp : Blk w p 68 (rxA a b n true true false l1 l2 l3 l4 (.slice LA Ln Lc) si sm ss sq hv pv j)) :
    Calls Try.prog 12 #[.pointer (some ⟨p, 0, none⟩), .agg #[.bool false, .bool m, .bool true, .int .i64 q, .slice hA nh hc], .slice A nn cap] w fun r w' => r = .returned (.int .i64 3) ∧ Below w.heap.size w w' := by
  obtain ⟨w1, hw1⟩ : ∃ w1, w.alloc (.cells #[.bool false, .bool m, .bool true, .int .i64 q, .slice hA nh hc] 33) = w1 := ⟨_, rfl⟩
  obtain ⟨g1, hg1⟩ : ∃ g1, w.heap.size = g1 := ⟨_, rfl⟩
  have hd := Blk.new w 33 #[.bool false, .bool m, .bool true, .int .i64 q, .slice hA nh hc]
  have hb1 := below_new w (.cells #[.bool false, .bool m, .bool true, .int .i64 q, .slice hA nh hc] 33)
  rw [hw1, hg1] at hd
  rw [hw1] at hb1
  have hp1 := hp.below hb1 hp.lt
  have Hb1 := Lib.hid hb1
  have HP1 := Lib.hid hp1
  have HD := Lib.hid hd
  have Hpg := Lib.hid (show p ≠ g1 from by have := hp.lt; omega)
  have hrem : (n + 1).tmod 4294967296 = (n + 1) % 4294967296 := Int.tmod_eq_emod_of_nonneg (by omega)
  have HA := Lib.hid (fun W => alike_any false m true q (.slice hA nh hc) l1 l2 l3 l4 (.slice LA Ln Lc) ht ⟨_, _, _, rfl⟩ ⟨_, _, _, rfl⟩ W)
  obtain ⟨x0, x1, x2, x3, x4, x5, x6, x7, x8, x9, xa, xb, xc, xd, xe, xf, xg, xh⟩ := blk18 hp1
  obtain ⟨d0, d1, d2, d3, d4⟩ := blk5 hd
  clear hb1 hd hp1 xb xc xd xe xf xg xh ht
  go_enter Try.func12, Try.ntmps12
  go_wp2_with fail
  go_quiet (exact top14_q _ _)
  go_wp2_with fail
  obtain ⟨w2, hw2⟩ : ∃ w2, w1.drewN nq = w2 := ⟨_, rfl⟩
  rw [hw2]
  have hb2 : Below w1.heap.size w1 w2 := by rw [← hw2]; exact below_drewN (Below.refl _ _) _
  have HP2 := Lib.hid (HP1.out.below hb2 HP1.out.lt)
  have HD2 := Lib.hid (HD.out.below hb2 HD.out.lt)
  have Hb2 := Lib.hid (below_trans Hb1.out Hb1.out.size hb2)
  have CA := Lib.hid (fun dd os => Calls.regrown_of (w := w2) (d := dd) (os := os) (HA.out _))
  clear x0 x1 x2 x3 x4 x5 x6 x7 x8 x9 xa d0 d1 d2 d3 d4 hw2 hb2 HP1 HD HA
  obtain ⟨x0, x1, x2, x3, x4, x5, x6, x7, x8, x9, xa, xb, xc, xd, xe, xf, xg, xh⟩ := blk18 HP2.out
  obtain ⟨d0, d1, d2, d3, d4⟩ := blk5 HD2.out
  have d0 := cell_regrown d0
  have d1 := cell_regrown d1
  have d2 := cell_regrown d2
  have d3 := cell_regrown d3
  have d4 := cell_regrown d4
  have x6 := cell_regrown x6
  have x7 := cell_regrown x7
  have x8 := cell_regrown x8
  have x9 := cell_regrown x9
  have xa := cell_regrown xa
  clear x0 x1 x2 x3 x4 x5 xb xc xd xe xf xg xh
  refine wp_region_quiet_below (by kernel_rfl) (by kernel_rfl) ?_
  repeat (go_big_quiet_step (exact CA.out _ _))
  refine wpQuiet_nil ?_
  rintro w3 ⟨⟨dq, osq⟩, hw3⟩
  have hb3 := below_regrown w2 dq osq
  rw [← hw3] at hb3
  have HP3 := Lib.hid (HP2.out.below hb3 HP2.out.lt)
  have HD3 := Lib.hid (HD2.out.below hb3 HD2.out.lt)
  have Hb3 := Lib.hid (below_trans Hb2.out Hb2.out.size hb3)
  clear d0 d1 d2 d3 d4 x6 x7 x8 x9 xa hw3 hb3 CA HP2 HD2
  obtain ⟨x0, x1, x2, x3, x4, x5, x6, x7, x8, x9, xa, xb, xc, xd, xe, xf, xg, xh⟩ := blk18 HP3.out
  obtain ⟨d0, d1, d2, d3, d4⟩ := blk5 HD3.out
  clear hp
  go_wp2_with fail
  go_quiet (fail)
  go_wp2
  go_ret
  exact ⟨rfl, by first | exact below_drewN Hb3.out _ | exact below_drewN (below_drewN Hb3.out _) _⟩
set_option maxHeartbeats 8000000 in
set_option maxRecDepth 100000 in
theorem rxBad_ms_false (p : Nat) (a b n : Int) (m : Bool) (l1 l2 l3 : Bool) (l4 : Int) (LA : Option Addr) (Ln Lc : Nat) (si sm ss : Bool) (sq : Int) (hv pv : Value) (j : Nat) (q : Int) (hA : Option Addr) (nh hc : Nat) (A : Option Addr) (nn cap : Nat) (hq0 : ¬ q < 0) (hq2 : ¬ 4294967296 ≤ q) (hn0 : 0 ≤ n) (hn1 : n ≤ 4294967295) (ht : decide (false = l1 ∧ m = l2 ∧ false = l3 ∧ q = l4) = false) (w : World) (hp : Blk w p 68 (rxA a b n true false false l1 l2 l3 l4 (.slice LA Ln Lc) si sm ss sq hv pv j)) :
    Calls Try.prog 12 #[.pointer (some ⟨p, 0, none⟩), .agg #[.bool false, .bool m, .bool false, .int .i64 q, .slice hA nh hc], .slice A nn cap] w fun r w' => r = .returned (.int .i64 3) ∧ Below w.heap.size w w' := by
  obtain ⟨w1, hw1⟩ : ∃ w1, w.alloc (.cells #[.bool false, .bool m, .bool false, .int .i64 q, .slice hA nh hc] 33) = w1 := ⟨_, rfl⟩
  obtain ⟨g1, hg1⟩ : ∃ g1, w.heap.size = g1 := ⟨_, rfl⟩
  have hd := Blk.new w 33 #[.bool false, .bool m, .bool false, .int .i64 q, .slice hA nh hc]
  have hb1 := below_new w (.cells #[.bool false, .bool m, .bool false, .int .i64 q, .slice hA nh hc] 33)
  rw [hw1, hg1] at hd
  rw [hw1] at hb1
  have hp1 := hp.below hb1 hp.lt
  have Hb1 := Lib.hid hb1
  have HP1 := Lib.hid hp1
  have HD := Lib.hid hd
  have Hpg := Lib.hid (show p ≠ g1 from by have := hp.lt; omega)
  have hrem : (n + 1).tmod 4294967296 = (n + 1) % 4294967296 := Int.tmod_eq_emod_of_nonneg (by omega)
  have HA := Lib.hid (fun W => alike_any false m false q (.slice hA nh hc) l1 l2 l3 l4 (.slice LA Ln Lc) ht ⟨_, _, _, rfl⟩ ⟨_, _, _, rfl⟩ W)
  obtain ⟨x0, x1, x2, x3, x4, x5, x6, x7, x8, x9, xa, xb, xc, xd, xe, xf, xg, xh⟩ := blk18 hp1
  obtain ⟨d0, d1, d2, d3, d4⟩ := blk5 hd
  clear hb1 hd hp1 xb xc xd xe xf xg xh ht
  go_enter Try.func12, Try.ntmps12
  go_wp2_with fail
  go_quiet (exact top14_q _ _)
  go_wp2_with fail
  obtain ⟨w2, hw2⟩ : ∃ w2, w1.drewN nq = w2 := ⟨_, rfl⟩
  rw [hw2]
  have hb2 : Below w1.heap.size w1 w2 := by rw [← hw2]; exact below_drewN (Below.refl _ _) _
  have HP2 := Lib.hid (HP1.out.below hb2 HP1.out.lt)
  have HD2 := Lib.hid (HD.out.below hb2 HD.out.lt)
  have Hb2 := Lib.hid (below_trans Hb1.out Hb1.out.size hb2)
  have CA := Lib.hid (fun dd os => Calls.regrown_of (w := w2) (d := dd) (os := os) (HA.out _))
  clear x0 x1 x2 x3 x4 x5 x6 x7 x8 x9 xa d0 d1 d2 d3 d4 hw2 hb2 HP1 HD HA
  obtain ⟨x0, x1, x2, x3, x4, x5, x6, x7, x8, x9, xa, xb, xc, xd, xe, xf, xg, xh⟩ := blk18 HP2.out
  obtain ⟨d0, d1, d2, d3, d4⟩ := blk5 HD2.out
  have d0 := cell_regrown d0
  have d1 := cell_regrown d1
  have d2 := cell_regrown d2
  have d3 := cell_regrown d3
  have d4 := cell_regrown d4
  have x6 := cell_regrown x6
  have x7 := cell_regrown x7
  have x8 := cell_regrown x8
  have x9 := cell_regrown x9
  have xa := cell_regrown xa
  clear x0 x1 x2 x3 x4 x5 xb xc xd xe xf xg xh
  refine wp_region_quiet_below (by kernel_rfl) (by kernel_rfl) ?_
  repeat (go_big_quiet_step (exact CA.out _ _))
  refine wpQuiet_nil ?_
  rintro w3 ⟨⟨dq, osq⟩, hw3⟩
  have hb3 := below_regrown w2 dq osq
  rw [← hw3] at hb3
  have HP3 := Lib.hid (HP2.out.below hb3 HP2.out.lt)
  have HD3 := Lib.hid (HD2.out.below hb3 HD2.out.lt)
  have Hb3 := Lib.hid (below_trans Hb2.out Hb2.out.size hb3)
  clear d0 d1 d2 d3 d4 x6 x7 x8 x9 xa hw3 hb3 CA HP2 HD2
  obtain ⟨x0, x1, x2, x3, x4, x5, x6, x7, x8, x9, xa, xb, xc, xd, xe, xf, xg, xh⟩ := blk18 HP3.out
  obtain ⟨d0, d1, d2, d3, d4⟩ := blk5 HD3.out
  clear hp
  go_wp2_with fail
  go_quiet (exact top14_q _ _)
  go_wp2_with fail
  go_quiet (fail)
  go_wp2
  go_ret
  exact ⟨rfl, by first | exact below_drewN Hb3.out _ | exact below_drewN (below_drewN Hb3.out _) _⟩
set_option maxHeartbeats 8000000 in
set_option maxRecDepth 100000 in
theorem rxBad_sq_true (p : Nat) (a b n : Int) (m : Bool) (l1 l2 l3 : Bool) (l4 : Int) (LA : Option Addr) (Ln Lc : Nat) (si sm ss : Bool) (sq : Int) (hv pv : Value) (j : Nat) (q : Int) (hA : Option Addr) (nh hc : Nat) (A : Option Addr) (nn cap : Nat) (hq0 : ¬ q < 0) (hq2 : ¬ 4294967296 ≤ q) (hn0 : 0 ≤ n) (hn1 : n ≤ 4294967295) (ht : decide (false = l1 ∧ m = l2 ∧ false = l3 ∧ q = l4) = false) (e4 : (q == n) = false) (w : World) (hp : Blk w p 68 (rxA a b n true true false l1 l2 l3 l4 (.slice LA Ln Lc) si sm ss sq hv pv j)) :
    Calls Try.prog 12 #[.pointer (some ⟨p, 0, none⟩), .agg #[.bool false, .bool m, .bool false, .int .i64 q, .slice hA nh hc], .slice A nn cap] w fun r w' => r = .returned (.int .i64 3) ∧ Below w.heap.size w w' := by
  obtain ⟨w1, hw1⟩ : ∃ w1, w.alloc (.cells #[.bool false, .bool m, .bool false, .int .i64 q, .slice hA nh hc] 33) = w1 := ⟨_, rfl⟩
  obtain ⟨g1, hg1⟩ : ∃ g1, w.heap.size = g1 := ⟨_, rfl⟩
  have hd := Blk.new w 33 #[.bool false, .bool m, .bool false, .int .i64 q, .slice hA nh hc]
  have hb1 := below_new w (.cells #[.bool false, .bool m, .bool false, .int .i64 q, .slice hA nh hc] 33)
  rw [hw1, hg1] at hd
  rw [hw1] at hb1
  have hp1 := hp.below hb1 hp.lt
  have Hb1 := Lib.hid hb1
  have HP1 := Lib.hid hp1
  have HD := Lib.hid hd
  have Hpg := Lib.hid (show p ≠ g1 from by have := hp.lt; omega)
  have hrem : (n + 1).tmod 4294967296 = (n + 1) % 4294967296 := Int.tmod_eq_emod_of_nonneg (by omega)
  have HA := Lib.hid (fun W => alike_any false m false q (.slice hA nh hc) l1 l2 l3 l4 (.slice LA Ln Lc) ht ⟨_, _, _, rfl⟩ ⟨_, _, _, rfl⟩ W)
  obtain ⟨x0, x1, x2, x3, x4, x5, x6, x7, x8, x9, xa, xb, xc, xd, xe, xf, xg, xh⟩ := blk18 hp1
  obtain ⟨d0, d1, d2, d3, d4⟩ := blk5 hd
  clear hb1 hd hp1 xb xc xd xe xf xg xh ht
  go_enter Try.func12, Try.ntmps12
  go_wp2_with fail
  go_quiet (exact top14_q _ _)
  go_wp2_with fail
  obtain ⟨w2, hw2⟩ : ∃ w2, w1.drewN nq = w2 := ⟨_, rfl⟩
  rw [hw2]
  have hb2 : Below w1.heap.size w1 w2 := by rw [← hw2]; exact below_drewN (Below.refl _ _) _
  have HP2 := Lib.hid (HP1.out.below hb2 HP1.out.lt)
  have HD2 := Lib.hid (HD.out.below hb2 HD.out.lt)
  have Hb2 := Lib.hid (below_trans Hb1.out Hb1.out.size hb2)
  have CA := Lib.hid (fun dd os => Calls.regrown_of (w := w2) (d := dd) (os := os) (HA.out _))
  clear x0 x1 x2 x3 x4 x5 x6 x7 x8 x9 xa d0 d1 d2 d3 d4 hw2 hb2 HP1 HD HA
  obtain ⟨x0, x1, x2, x3, x4, x5, x6, x7, x8, x9, xa, xb, xc, xd, xe, xf, xg, xh⟩ := blk18 HP2.out
  obtain ⟨d0, d1, d2, d3, d4⟩ := blk5 HD2.out
  have d0 := cell_regrown d0
  have d1 := cell_regrown d1
  have d2 := cell_regrown d2
  have d3 := cell_regrown d3
  have d4 := cell_regrown d4
  have x6 := cell_regrown x6
  have x7 := cell_regrown x7
  have x8 := cell_regrown x8
  have x9 := cell_regrown x9
  have xa := cell_regrown xa
  clear x0 x1 x2 x3 x4 x5 xb xc xd xe xf xg xh
  refine wp_region_quiet_below (by kernel_rfl) (by kernel_rfl) ?_
  repeat (go_big_quiet_step (exact CA.out _ _))
  refine wpQuiet_nil ?_
  rintro w3 ⟨⟨dq, osq⟩, hw3⟩
  have hb3 := below_regrown w2 dq osq
  rw [← hw3] at hb3
  have HP3 := Lib.hid (HP2.out.below hb3 HP2.out.lt)
  have HD3 := Lib.hid (HD2.out.below hb3 HD2.out.lt)
  have Hb3 := Lib.hid (below_trans Hb2.out Hb2.out.size hb3)
  clear d0 d1 d2 d3 d4 x6 x7 x8 x9 xa hw3 hb3 CA HP2 HD2
  obtain ⟨x0, x1, x2, x3, x4, x5, x6, x7, x8, x9, xa, xb, xc, xd, xe, xf, xg, xh⟩ := blk18 HP3.out
  obtain ⟨d0, d1, d2, d3, d4⟩ := blk5 HD3.out
  clear hp
  have e5 := bne_t14 e4
  go_wp2_with fail
  go_quiet (fail)
  go_wp2
  go_ret
  exact ⟨rfl, by first | exact below_drewN Hb3.out _ | exact below_drewN (below_drewN Hb3.out _) _⟩
set_option maxHeartbeats 8000000 in
set_option maxRecDepth 100000 in
theorem rxBad_sq_false (p : Nat) (a b n : Int) (m : Bool) (l1 l2 l3 : Bool) (l4 : Int) (LA : Option Addr) (Ln Lc : Nat) (si sm ss : Bool) (sq : Int) (hv pv : Value) (j : Nat) (q : Int) (hA : Option Addr) (nh hc : Nat) (A : Option Addr) (nn cap : Nat) (hq0 : ¬ q < 0) (hq2 : ¬ 4294967296 ≤ q) (hn0 : 0 ≤ n) (hn1 : n ≤ 4294967295) (ht : decide (false = l1 ∧ m = l2 ∧ true = l3 ∧ q = l4) = false) (e4 : (q == (n + 1) % 4294967296) = false) (w : World) (hp : Blk w p 68 (rxA a b n true false false l1 l2 l3 l4 (.slice LA Ln Lc) si sm ss sq hv pv j)) :
    Calls Try.prog 12 #[.pointer (some ⟨p, 0, none⟩), .agg #[.bool false, .bool m, .bool true, .int .i64 q, .slice hA nh hc], .slice A nn cap] w fun r w' => r = .returned (.int .i64 3) ∧ Below w.heap.size w w' := by
  obtain ⟨w1, hw1⟩ : ∃ w1, w.alloc (.cells #[.bool false, .bool m, .bool true, .int .i64 q, .slice hA nh hc] 33) = w1 := ⟨_, rfl⟩
  obtain ⟨g1, hg1⟩ : ∃ g1, w.heap.size = g1 := ⟨_, rfl⟩
  have hd := Blk.new w 33 #[.bool false, .bool m, .bool true, .int .i64 q, .slice hA nh hc]
  have hb1 := below_new w (.cells #[.bool false, .bool m, .bool true, .int .i64 q, .slice hA nh hc] 33)
  rw [hw1, hg1] at hd
  rw [hw1] at hb1
  have hp1 := hp.below hb1 hp.lt
  have Hb1 := Lib.hid hb1
  have HP1 := Lib.hid hp1
  have HD := Lib.hid hd
  have Hpg := Lib.hid (show p ≠ g1 from by have := hp.lt; omega)
  have hrem : (n + 1).tmod 4294967296 = (n + 1) % 4294967296 := Int.tmod_eq_emod_of_nonneg (by omega)
  have HA := Lib.hid (fun W => alike_any false m true q (.slice hA nh hc) l1 l2 l3 l4 (.slice LA Ln Lc) ht ⟨_, _, _, rfl⟩ ⟨_, _, _, rfl⟩ W)
  obtain ⟨x0, x1, x2, x3, x4, x5, x6, x7, x8, x9, xa, xb, xc, xd, xe, xf, xg, xh⟩ := blk18 hp1
  obtain ⟨d0, d1, d2, d3, d4⟩ := blk5 hd
  clear hb1 hd hp1 xb xc xd xe xf xg xh ht
  go_enter Try.func12, Try.ntmps12
  go_wp2_with fail
  go_quiet (exact top14_q _ _)
  go_wp2_with fail
  obtain ⟨w2, hw2⟩ : ∃ w2, w1.drewN nq = w2 := ⟨_, rfl⟩
  rw [hw2]
  have hb2 : Below w1.heap.size w1 w2 := by rw [← hw2]; exact below_drewN (Below.refl _ _) _
  have HP2 := Lib.hid (HP1.out.below hb2 HP1.out.lt)
  have HD2 := Lib.hid (HD.out.below hb2 HD.out.lt)
  have Hb2 := Lib.hid (below_trans Hb1.out Hb1.out.size hb2)
  have CA := Lib.hid (fun dd os => Calls.regrown_of (w := w2) (d := dd) (os := os) (HA.out _))
  clear x0 x1 x2 x3 x4 x5 x6 x7 x8 x9 xa d0 d1 d2 d3 d4 hw2 hb2 HP1 HD HA
  obtain ⟨x0, x1, x2, x3, x4, x5, x6, x7, x8, x9, xa, xb, xc, xd, xe, xf, xg, xh⟩ := blk18 HP2.out
  obtain ⟨d0, d1, d2, d3, d4⟩ := blk5 HD2.out
  have d0 := cell_regrown d0
  have d1 := cell_regrown d1
  have d2 := cell_regrown d2
  have d3 := cell_regrown d3
  have d4 := cell_regrown d4
  have x6 := cell_regrown x6
  have x7 := cell_regrown x7
  have x8 := cell_regrown x8
  have x9 := cell_regrown x9
  have xa := cell_regrown xa
  clear x0 x1 x2 x3 x4 x5 xb xc xd xe xf xg xh
  refine wp_region_quiet_below (by kernel_rfl) (by kernel_rfl) ?_
  repeat (go_big_quiet_step (exact CA.out _ _))
  refine wpQuiet_nil ?_
  rintro w3 ⟨⟨dq, osq⟩, hw3⟩
  have hb3 := below_regrown w2 dq osq
  rw [← hw3] at hb3
  have HP3 := Lib.hid (HP2.out.below hb3 HP2.out.lt)
  have HD3 := Lib.hid (HD2.out.below hb3 HD2.out.lt)
  have Hb3 := Lib.hid (below_trans Hb2.out Hb2.out.size hb3)
  clear d0 d1 d2 d3 d4 x6 x7 x8 x9 xa hw3 hb3 CA HP2 HD2
  obtain ⟨x0, x1, x2, x3, x4, x5, x6, x7, x8, x9, xa, xb, xc, xd, xe, xf, xg, xh⟩ := blk18 HP3.out
  obtain ⟨d0, d1, d2, d3, d4⟩ := blk5 HD3.out
  clear hp
  have e5 := bne_t14 e4
  go_wp2_with fail
  go_quiet (exact top14_q _ _)
  go_wp2_with fail
  go_quiet (fail)
  go_wp2
  go_ret
  exact ⟨rfl, by first | exact below_drewN Hb3.out _ | exact below_drewN (below_drewN Hb3.out _) _⟩

end Go.Proofs.Ytfpjkeddcagfcaa
