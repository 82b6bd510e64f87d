/-
  Layer 14: the document's exchange takes the next piece.
-/
import Derived.Test.YtfpjkeddcagfcaaBab
import Derived.Test.YtfpjkeddcagfcaaBag
import Derived.Test.YtfpjkeddcagfcaaBah
namespace Go.Proofs.Ytfpjkeddcagfcaa
open Go.RowKit Go.Sort

set_option maxHeartbeats 8000000 in
set_option maxRecDepth 100000 in
theorem rxLead_done (p : Nat) (a b n : Int) (l1 l2 l3 : Bool) (l4 : Int) (LA : Option Addr) (Ln Lc : Nat) (si sm ss : Bool) (sq : Int) (hv pv : Value) (j : Nat) (q : Int) (hA : Option Addr) (nh hc : Nat) (A : Option Addr) (nn cap : Nat) (hq0 : ¬ q < 0) (hq2 : ¬ 4294967296 ≤ q) (hn0 : 0 ≤ n) (hn1 : n ≤ 4294967295) (ht : decide (false = l1 ∧ false = l2 ∧ false = l3 ∧ q = l4) = false) (e4 : (q == n) = true) (esm : sm = false) (w : World) (hp : Blk w p 68 (rxA a b n true true false l1 l2 l3 l4 (.slice LA Ln Lc) si sm ss sq hv pv j)) :
    Calls Try.prog 12 #[.pointer (some ⟨p, 0, none⟩), .agg #[.bool false, .bool false, .bool false, .int .i64 q, .slice hA nh hc], .slice A nn cap] w fun r w' => r = .returned (.int .i64 2) ∧ Blk w' p 68 (rxA a b (exNext n) true true true false false false q (.slice hA nh hc) si sm ss sq hv pv j) ∧ w.grownBy w' (some p) := by
  obtain ⟨w1, hw1⟩ : ∃ w1, w.alloc (.cells #[.bool false, .bool false, .bool false, .int .i64 q, .slice hA nh hc] 33) = w1 := ⟨_, rfl⟩
  obtain ⟨g1, hg1⟩ : ∃ g1, w.heap.size = g1 := ⟨_, rfl⟩
  have hd := Blk.new w 33 #[.bool false, .bool false, .bool false, .int .i64 q, .slice hA nh hc]
  have hb1 := below_new w (.cells #[.bool false, .bool false, .bool false, .int .i64 q, .slice hA nh hc] 33)
  rw [hw1, hg1] at hd
  rw [hw1] at hb1
  have hp1 := hp.below hb1 hp.lt
  have Hb1 := Lib.hid hb1
  have HP1 := Lib.hid hp1
  have HD := Lib.hid hd
  have Hpg := Lib.hid (show p ≠ g1 from by have := hp.lt; omega)
  have hrem : (n + 1).tmod 4294967296 = (n + 1) % 4294967296 := Int.tmod_eq_emod_of_nonneg (by omega)
  have HA := Lib.hid (fun W => alike_any false false false q (.slice hA nh hc) l1 l2 l3 l4 (.slice LA Ln Lc) ht ⟨_, _, _, rfl⟩ ⟨_, _, _, rfl⟩ W)
  obtain ⟨x0, x1, x2, x3, x4, x5, x6, x7, x8, x9, xa, xb, xc, xd, xe, xf, xg, xh⟩ := blk18 hp1
  obtain ⟨d0, d1, d2, d3, d4⟩ := blk5 hd
  clear hb1 hd hp1 xb xc xd xe xf xg xh ht
  go_enter Try.func12, Try.ntmps12
  go_wp2_with fail
  go_quiet (exact top14_q _ _)
  go_wp2_with fail
  obtain ⟨w2, hw2⟩ : ∃ w2, w1.drewN nq = w2 := ⟨_, rfl⟩
  rw [hw2]
  have hb2 : Below w1.heap.size w1 w2 := by rw [← hw2]; exact below_drewN (Below.refl _ _) _
  have HP2 := Lib.hid (HP1.out.below hb2 HP1.out.lt)
  have HD2 := Lib.hid (HD.out.below hb2 HD.out.lt)
  have Hb2 := Lib.hid (below_trans Hb1.out Hb1.out.size hb2)
  have CA := Lib.hid (fun dd os => Calls.regrown_of (w := w2) (d := dd) (os := os) (HA.out _))
  clear x0 x1 x2 x3 x4 x5 x6 x7 x8 x9 xa d0 d1 d2 d3 d4 hw2 hb2 HP1 HD HA
  obtain ⟨x0, x1, x2, x3, x4, x5, x6, x7, x8, x9, xa, xb, xc, xd, xe, xf, xg, xh⟩ := blk18 HP2.out
  obtain ⟨d0, d1, d2, d3, d4⟩ := blk5 HD2.out
  have d0 := cell_regrown d0
  have d1 := cell_regrown d1
  have d2 := cell_regrown d2
  have d3 := cell_regrown d3
  have d4 := cell_regrown d4
  have x6 := cell_regrown x6
  have x7 := cell_regrown x7
  have x8 := cell_regrown x8
  have x9 := cell_regrown x9
  have xa := cell_regrown xa
  clear x0 x1 x2 x3 x4 x5 xb xc xd xe xf xg xh
  refine wp_region_quiet_below (by kernel_rfl) (by kernel_rfl) ?_
  repeat (go_big_quiet_step (exact CA.out _ _))
  refine wpQuiet_nil ?_
  rintro w3 ⟨⟨dq, osq⟩, hw3⟩
  have hb3 := below_regrown w2 dq osq
  rw [← hw3] at hb3
  have HP3 := Lib.hid (HP2.out.below hb3 HP2.out.lt)
  have HD3 := Lib.hid (HD2.out.below hb3 HD2.out.lt)
  have Hb3 := Lib.hid (below_trans Hb2.out Hb2.out.size hb3)
  clear d0 d1 d2 d3 d4 x6 x7 x8 x9 xa hw3 hb3 CA HP2 HD2
  obtain ⟨x0, x1, x2, x3, x4, x5, x6, x7, x8, x9, xa, xb, xc, xd, xe, xf, xg, xh⟩ := blk18 HP3.out
  obtain ⟨d0, d1, d2, d3, d4⟩ := blk5 HD3.out
  have e5 := bne_f14 e4
  subst esm
  clear hp
  have hfz := fun j => HP3.out.frozen j
  have hpg : ¬ (p = g1) := Hpg.out
  have hgp : ¬ (g1 = p) := fun e => Hpg.out e.symm
  go_wp2_with fail
  go_quiet (fail)
  go_wp2_with fail
  obtain ⟨w4, hw4⟩ : ∃ w4, ((((((w3.drewN nq).setCell ⟨p, 6, none⟩ (.bool false)).setCell ⟨p, 7, none⟩ (.bool false)).setCell ⟨p, 8, none⟩ (.bool false)).setCell ⟨p, 9, none⟩ (.int .i64 q)).setCell ⟨p, 10, none⟩ (.slice hA nh hc)) = w4 := ⟨_, rfl⟩
  rw [hw4]
  have hbz : Below w3.heap.size w3 (w3.drewN nq) := below_drewN (Below.refl _ _) _
  have hp4 : Blk w4 p 68 (rxA a b n true true false false false false q (.slice hA nh hc) si false ss sq hv pv j) := by
    rw [← hw4]
    simpa [rxA] using (((((HP3.out.below hbz HP3.out.lt).set_ 6 (.bool false)).set_ 7 (.bool false)).set_ 8 (.bool false)).set_ 9 (.int .i64 q)).set_ 10 (.slice hA nh hc)
  have hg4 : w3.grownBy w4 (some p) := by rw [← hw4]; exact gr_set (gr_set (gr_set (gr_set (gr_set (gr_below hbz) 6 _) 7 _) 8 _) 9 _) 10 _
  have HD4 := Lib.hid (HD3.out.grown hg4 (fun e => Hpg.out (by injection e with e; exact e.symm)))
  have HP4 := Lib.hid hp4
  have Hg4 := Lib.hid (gr_trans (gr_below (row := some p) Hb3.out) hg4)
  clear x0 x1 x2 x3 x4 x5 x6 x7 x8 x9 xa xb xc xd xe xf xg xh d0 d1 d2 d3 d4 hfz hw4 hg4 hp4 hpg hgp hbz
  obtain ⟨x0, x1, x2, x3, x4, x5, x6, x7, x8, x9, xa, xb, xc, xd, xe, xf, xg, xh⟩ := blk18 HP4.out
  refine wp_drew_tail 10 (by kernel_rfl) (by kernel_rfl) ?_
  simp only [List.take_succ_cons, List.take_zero, List.drop_succ_cons, List.drop_zero]
  repeat (go_big_quiet_step (exact top14_q _ _))
  refine wpQuiet_nil ?_
  rintro wz ⟨dq2, hwz⟩
  have hbz : Below w4.heap.size w4 wz := by rw [hwz]; exact below_drewN (Below.refl _ _) _
  have HPz := Lib.hid (HP4.out.below hbz HP4.out.lt)
  have HDz := Lib.hid (HD4.out.below hbz HD4.out.lt)
  have Hgz := Lib.hid (gr_trans Hg4.out (gr_below (row := some p) hbz))
  clear x0 x1 x2 x3 x4 x5 x6 x7 x8 x9 xa xb xc xd xe xf xg xh hwz hbz
  obtain ⟨x0, x1, x2, x3, x4, x5, x6, x7, x8, x9, xa, xb, xc, xd, xe, xf, xg, xh⟩ := blk18 HPz.out
  obtain ⟨d0, d1, d2, d3, d4⟩ := blk5 HDz.out
  have hfz := fun j => HPz.out.frozen j
  have hpg : ¬ (p = g1) := Hpg.out
  have hgp : ¬ (g1 = p) := fun e => Hpg.out e.symm
  go_wp2
  go_ret
  have hset : Blk ((wz.setCell ⟨p, 2, none⟩ (.int .i64 ((n + 1) % 4294967296))).setCell ⟨p, 5, none⟩ (.bool true)) p 68 (rxA a b (exNext n) true true true false false false q (.slice hA nh hc) si false ss sq hv pv j) := by simpa [rxA, exNext] using (HPz.out.set_ 2 (.int .i64 ((n + 1) % 4294967296))).set_ 5 (.bool true)
  exact ⟨rfl, hset, gr_set (gr_set Hgz.out 2 _) 5 _⟩
set_option maxHeartbeats 8000000 in
set_option maxRecDepth 100000 in
theorem rxLead_step1 (p : Nat) (a b n : Int) (l1 l2 l3 : Bool) (l4 : Int) (LA : Option Addr) (Ln Lc : Nat) (si sm ss : Bool) (sq : Int) (hv pv : Value) (j : Nat) (q : Int) (hA : Option Addr) (nh hc : Nat) (A : Option Addr) (nn cap : Nat) (hq0 : ¬ q < 0) (hq2 : ¬ 4294967296 ≤ q) (hn0 : 0 ≤ n) (hn1 : n ≤ 4294967295) (ht : decide (false = l1 ∧ true = l2 ∧ false = l3 ∧ q = l4) = false) (e4 : (q == n) = true) (w : World) (hp : Blk w p 68 (rxA a b n true true false l1 l2 l3 l4 (.slice LA Ln Lc) si sm ss sq hv pv j)) {V : List SlV} {H : List Hd} (hP : Pcs w pv V H) (hj : j + 1 ≤ 2 ^ 20) (hH : H.length ≤ 2 ^ 19) :
    Calls Try.prog 12 #[.pointer (some ⟨p, 0, none⟩), .agg #[.bool false, .bool true, .bool false, .int .i64 q, .slice hA nh hc], .slice A nn cap] w fun r w' => r = .returned (.int .i64 2) ∧ (∃ hv', Blk w' p 68 (rxA a b (exNext n) true true false false true false q (.slice hA nh hc) false (moreP H (j + 1)) true (exNext n) hv' pv (j + 1 : Nat)) ∧ OwnR 56 7 Hd.cells w' 0 hv' (pcP H (j + 1)) ∧ Pcs w' pv V H) ∧ w.grownBy w' (some p) := by
  obtain ⟨w1, hw1⟩ : ∃ w1, w.alloc (.cells #[.bool false, .bool true, .bool false, .int .i64 q, .slice hA nh hc] 33) = w1 := ⟨_, rfl⟩
  obtain ⟨g1, hg1⟩ : ∃ g1, w.heap.size = g1 := ⟨_, rfl⟩
  have hd := Blk.new w 33 #[.bool false, .bool true, .bool false, .int .i64 q, .slice hA nh hc]
  have hb1 := below_new w (.cells #[.bool false, .bool true, .bool false, .int .i64 q, .slice hA nh hc] 33)
  rw [hw1, hg1] at hd
  rw [hw1] at hb1
  have hp1 := hp.below hb1 hp.lt
  have Hb1 := Lib.hid hb1
  have HP1 := Lib.hid hp1
  have HD := Lib.hid hd
  have Hpg := Lib.hid (show p ≠ g1 from by have := hp.lt; omega)
  have hrem : (n + 1).tmod 4294967296 = (n + 1) % 4294967296 := Int.tmod_eq_emod_of_nonneg (by omega)
  have HA := Lib.hid (fun W => alike_any false true false q (.slice hA nh hc) l1 l2 l3 l4 (.slice LA Ln Lc) ht ⟨_, _, _, rfl⟩ ⟨_, _, _, rfl⟩ W)
  obtain ⟨x0, x1, x2, x3, x4, x5, x6, x7, x8, x9, xa, xb, xc, xd, xe, xf, xg, xh⟩ := blk18 hp1
  obtain ⟨d0, d1, d2, d3, d4⟩ := blk5 hd
  clear hb1 hd hp1 xb xc xd xe xf xg xh ht
  go_enter Try.func12, Try.ntmps12
  go_wp2_with fail
  go_quiet (exact top14_q _ _)
  go_wp2_with fail
  obtain ⟨w2, hw2⟩ : ∃ w2, w1.drewN nq = w2 := ⟨_, rfl⟩
  rw [hw2]
  have hb2 : Below w1.heap.size w1 w2 := by rw [← hw2]; exact below_drewN (Below.refl _ _) _
  have HP2 := Lib.hid (HP1.out.below hb2 HP1.out.lt)
  have HD2 := Lib.hid (HD.out.below hb2 HD.out.lt)
  have Hb2 := Lib.hid (below_trans Hb1.out Hb1.out.size hb2)
  have CA := Lib.hid (fun dd os => Calls.regrown_of (w := w2) (d := dd) (os := os) (HA.out _))
  clear x0 x1 x2 x3 x4 x5 x6 x7 x8 x9 xa d0 d1 d2 d3 d4 hw2 hb2 HP1 HD HA
  obtain ⟨x0, x1, x2, x3, x4, x5, x6, x7, x8, x9, xa, xb, xc, xd, xe, xf, xg, xh⟩ := blk18 HP2.out
  obtain ⟨d0, d1, d2, d3, d4⟩ := blk5 HD2.out
  have d0 := cell_regrown d0
  have d1 := cell_regrown d1
  have d2 := cell_regrown d2
  have d3 := cell_regrown d3
  have d4 := cell_regrown d4
  have x6 := cell_regrown x6
  have x7 := cell_regrown x7
  have x8 := cell_regrown x8
  have x9 := cell_regrown x9
  have xa := cell_regrown xa
  clear x0 x1 x2 x3 x4 x5 xb xc xd xe xf xg xh
  refine wp_region_quiet_below (by kernel_rfl) (by kernel_rfl) ?_
  repeat (go_big_quiet_step (exact CA.out _ _))
  refine wpQuiet_nil ?_
  rintro w3 ⟨⟨dq, osq⟩, hw3⟩
  have hb3 := below_regrown w2 dq osq
  rw [← hw3] at hb3
  have HP3 := Lib.hid (HP2.out.below hb3 HP2.out.lt)
  have HD3 := Lib.hid (HD2.out.below hb3 HD2.out.lt)
  have Hb3 := Lib.hid (below_trans Hb2.out Hb2.out.size hb3)
  clear d0 d1 d2 d3 d4 x6 x7 x8 x9 xa hw3 hb3 CA HP2 HD2
  obtain ⟨x0, x1, x2, x3, x4, x5, x6, x7, x8, x9, xa, xb, xc, xd, xe, xf, xg, xh⟩ := blk18 HP3.out
  obtain ⟨d0, d1, d2, d3, d4⟩ := blk5 HD3.out
  have e5 := bne_f14 e4
  have HPc := Lib.hid hP
  have HWP := Lib.hid hp
  have HHl := Lib.hid hH
  have hji : (j : Int) ≤ 1048576 := by omega
  have Hj := Lib.hid hj
  clear hP hH hj
  clear hp
  have hfz := fun j => HP3.out.frozen j
  have hpg : ¬ (p = g1) := Hpg.out
  have hgp : ¬ (g1 = p) := fun e => Hpg.out e.symm
  go_wp2_with fail
  go_quiet (fail)
  go_wp2_with fail
  obtain ⟨w4, hw4⟩ : ∃ w4, ((((((w3.drewN nq).setCell ⟨p, 6, none⟩ (.bool false)).setCell ⟨p, 7, none⟩ (.bool true)).setCell ⟨p, 8, none⟩ (.bool false)).setCell ⟨p, 9, none⟩ (.int .i64 q)).setCell ⟨p, 10, none⟩ (.slice hA nh hc)) = w4 := ⟨_, rfl⟩
  rw [hw4]
  have hbz : Below w3.heap.size w3 (w3.drewN nq) := below_drewN (Below.refl _ _) _
  have hp4 : Blk w4 p 68 (rxA a b n true true false false true false q (.slice hA nh hc) si sm ss sq hv pv j) := by
    rw [← hw4]
    simpa [rxA] using (((((HP3.out.below hbz HP3.out.lt).set_ 6 (.bool false)).set_ 7 (.bool true)).set_ 8 (.bool false)).set_ 9 (.int .i64 q)).set_ 10 (.slice hA nh hc)
  have hg4 : w3.grownBy w4 (some p) := by rw [← hw4]; exact gr_set (gr_set (gr_set (gr_set (gr_set (gr_below hbz) 6 _) 7 _) 8 _) 9 _) 10 _
  have HD4 := Lib.hid (HD3.out.grown hg4 (fun e => Hpg.out (by injection e with e; exact e.symm)))
  have HP4 := Lib.hid hp4
  have Hg4 := Lib.hid (gr_trans (gr_below (row := some p) Hb3.out) hg4)
  clear x0 x1 x2 x3 x4 x5 x6 x7 x8 x9 xa xb xc xd xe xf xg xh d0 d1 d2 d3 d4 hfz hw4 hg4 hp4 hpg hgp hbz
  obtain ⟨x0, x1, x2, x3, x4, x5, x6, x7, x8, x9, xa, xb, xc, xd, xe, xf, xg, xh⟩ := blk18 HP4.out
  refine wp_drew_tail 10 (by kernel_rfl) (by kernel_rfl) ?_
  simp only [List.take_succ_cons, List.take_zero, List.drop_succ_cons, List.drop_zero]
  repeat (go_big_quiet_step (exact top14_q _ _))
  refine wpQuiet_nil ?_
  rintro wz ⟨dq2, hwz⟩
  have hbz : Below w4.heap.size w4 wz := by rw [hwz]; exact below_drewN (Below.refl _ _) _
  have HPz := Lib.hid (HP4.out.below hbz HP4.out.lt)
  have HDz := Lib.hid (HD4.out.below hbz HD4.out.lt)
  have Hgz := Lib.hid (gr_trans Hg4.out (gr_below (row := some p) hbz))
  clear x0 x1 x2 x3 x4 x5 x6 x7 x8 x9 xa xb xc xd xe xf xg xh hwz hbz
  obtain ⟨x0, x1, x2, x3, x4, x5, x6, x7, x8, x9, xa, xb, xc, xd, xe, xf, xg, xh⟩ := blk18 HPz.out
  obtain ⟨d0, d1, d2, d3, d4⟩ := blk5 HDz.out
  have hfz := fun j => HPz.out.frozen j
  have hpg : ¬ (p = g1) := Hpg.out
  have hgp : ¬ (g1 = p) := fun e => Hpg.out e.symm
  go_wp2_with fail
  obtain ⟨w5, hw5⟩ : ∃ w5, (wz.setCell ⟨p, 2, none⟩ (.int .i64 ((n + 1) % 4294967296))).setCell ⟨p, 17, none⟩ (.int .i64 ((j : Int) + 1)) = w5 := ⟨_, rfl⟩
  rw [hw5]
  have hp5 : Blk w5 p 68 (rxA a b (exNext n) true true false false true false q (.slice hA nh hc) si sm ss sq hv pv (j + 1 : Nat)) := by
    rw [← hw5]
    simpa [rxA, exNext] using (HPz.out.set_ 2 (.int .i64 ((n + 1) % 4294967296))).set_ 17 (.int .i64 ((j : Int) + 1))
  have hg5 : w.grownBy w5 (some p) := by rw [← hw5]; exact gr_set (gr_set Hgz.out 2 _) 17 _
  have HPc5 := Lib.hid (HPc.out.grown HWP.out (by decide) (by decide) hg5)
  have HSay := Lib.hid (rxSay_any p _ _ _ _ _ _ _ _ _ _ _ _ _ _ _ _ _ (j + 1) V H w5 hp5 HPc5.out Hj.out (by have := HHl.out; omega))
  have Hg5 := Lib.hid hg5
  have HP5 := Lib.hid hp5
  clear x0 x1 x2 x3 x4 x5 x6 x7 x8 x9 xa xb xc xd xe xf xg xh d0 d1 d2 d3 d4 hfz hw5 hg5 hpg hgp hp5
  with_reducible refine Calls.mono HSay.out ?_
  rintro r w7 ⟨rfl, ⟨hv7, hp7, ho7⟩, hg7⟩
  have HF := Lib.hid (And.intro hp7 (And.intro ho7 (And.intro (HPc5.out.grown HP5.out (by decide) (by decide) hg7) (gr_trans Hg5.out hg7))))
  clear hp7 ho7 hg7
  go_wp2
  go_ret
  exact ⟨rfl, ⟨hv7, HF.out.1, HF.out.2.1, HF.out.2.2.1⟩, HF.out.2.2.2⟩
set_option maxHeartbeats 8000000 in
set_option maxRecDepth 100000 in
theorem rxLead_step2 (p : Nat) (a b n : Int) (l1 l2 l3 : Bool) (l4 : Int) (LA : Option Addr) (Ln Lc : Nat) (si sm ss : Bool) (sq : Int) (hv pv : Value) (j : Nat) (q : Int) (hA : Option Addr) (nh hc : Nat) (A : Option Addr) (nn cap : Nat) (hq0 : ¬ q < 0) (hq2 : ¬ 4294967296 ≤ q) (hn0 : 0 ≤ n) (hn1 : n ≤ 4294967295) (ht : decide (false = l1 ∧ false = l2 ∧ false = l3 ∧ q = l4) = false) (e4 : (q == n) = true) (esm : sm = true) (w : World) (hp : Blk w p 68 (rxA a b n true true false l1 l2 l3 l4 (.slice LA Ln Lc) si sm ss sq hv pv j)) {V : List SlV} {H : List Hd} (hP : Pcs w pv V H) (hj : j + 1 ≤ 2 ^ 20) (hH : H.length ≤ 2 ^ 19) :
    Calls Try.prog 12 #[.pointer (some ⟨p, 0, none⟩), .agg #[.bool false, .bool false, .bool false, .int .i64 q, .slice hA nh hc], .slice A nn cap] w fun r w' => r = .returned (.int .i64 2) ∧ (∃ hv', Blk w' p 68 (rxA a b (exNext n) true true false false false false q (.slice hA nh hc) false (moreP H (j + 1)) true (exNext n) hv' pv (j + 1 : Nat)) ∧ OwnR 56 7 Hd.cells w' 0 hv' (pcP H (j + 1)) ∧ Pcs w' pv V H) ∧ w.grownBy w' (some p) := by
  obtain ⟨w1, hw1⟩ : ∃ w1, w.alloc (.cells #[.bool false, .bool false, .bool false, .int .i64 q, .slice hA nh hc] 33) = w1 := ⟨_, rfl⟩
  obtain ⟨g1, hg1⟩ : ∃ g1, w.heap.size = g1 := ⟨_, rfl⟩
  have hd := Blk.new w 33 #[.bool false, .bool false, .bool false, .int .i64 q, .slice hA nh hc]
  have hb1 := below_new w (.cells #[.bool false, .bool false, .bool false, .int .i64 q, .slice hA nh hc] 33)
  rw [hw1, hg1] at hd
  rw [hw1] at hb1
  have hp1 := hp.below hb1 hp.lt
  have Hb1 := Lib.hid hb1
  have HP1 := Lib.hid hp1
  have HD := Lib.hid hd
  have Hpg := Lib.hid (show p ≠ g1 from by have := hp.lt; omega)
  have hrem : (n + 1).tmod 4294967296 = (n + 1) % 4294967296 := Int.tmod_eq_emod_of_nonneg (by omega)
  have HA := Lib.hid (fun W => alike_any false false false q (.slice hA nh hc) l1 l2 l3 l4 (.slice LA Ln Lc) ht ⟨_, _, _, rfl⟩ ⟨_, _, _, rfl⟩ W)
  obtain ⟨x0, x1, x2, x3, x4, x5, x6, x7, x8, x9, xa, xb, xc, xd, xe, xf, xg, xh⟩ := blk18 hp1
  obtain ⟨d0, d1, d2, d3, d4⟩ := blk5 hd
  clear hb1 hd hp1 xb xc xd xe xf xg xh ht
  go_enter Try.func12, Try.ntmps12
  go_wp2_with fail
  go_quiet (exact top14_q _ _)
  go_wp2_with fail
  obtain ⟨w2, hw2⟩ : ∃ w2, w1.drewN nq = w2 := ⟨_, rfl⟩
  rw [hw2]
  have hb2 : Below w1.heap.size w1 w2 := by rw [← hw2]; exact below_drewN (Below.refl _ _) _
  have HP2 := Lib.hid (HP1.out.below hb2 HP1.out.lt)
  have HD2 := Lib.hid (HD.out.below hb2 HD.out.lt)
  have Hb2 := Lib.hid (below_trans Hb1.out Hb1.out.size hb2)
  have CA := Lib.hid (fun dd os => Calls.regrown_of (w := w2) (d := dd) (os := os) (HA.out _))
  clear x0 x1 x2 x3 x4 x5 x6 x7 x8 x9 xa d0 d1 d2 d3 d4 hw2 hb2 HP1 HD HA
  obtain ⟨x0, x1, x2, x3, x4, x5, x6, x7, x8, x9, xa, xb, xc, xd, xe, xf, xg, xh⟩ := blk18 HP2.out
  obtain ⟨d0, d1, d2, d3, d4⟩ := blk5 HD2.out
  have d0 := cell_regrown d0
  have d1 := cell_regrown d1
  have d2 := cell_regrown d2
  have d3 := cell_regrown d3
  have d4 := cell_regrown d4
  have x6 := cell_regrown x6
  have x7 := cell_regrown x7
  have x8 := cell_regrown x8
  have x9 := cell_regrown x9
  have xa := cell_regrown xa
  clear x0 x1 x2 x3 x4 x5 xb xc xd xe xf xg xh
  refine wp_region_quiet_below (by kernel_rfl) (by kernel_rfl) ?_
  repeat (go_big_quiet_step (exact CA.out _ _))
  refine wpQuiet_nil ?_
  rintro w3 ⟨⟨dq, osq⟩, hw3⟩
  have hb3 := below_regrown w2 dq osq
  rw [← hw3] at hb3
  have HP3 := Lib.hid (HP2.out.below hb3 HP2.out.lt)
  have HD3 := Lib.hid (HD2.out.below hb3 HD2.out.lt)
  have Hb3 := Lib.hid (below_trans Hb2.out Hb2.out.size hb3)
  clear d0 d1 d2 d3 d4 x6 x7 x8 x9 xa hw3 hb3 CA HP2 HD2
  obtain ⟨x0, x1, x2, x3, x4, x5, x6, x7, x8, x9, xa, xb, xc, xd, xe, xf, xg, xh⟩ := blk18 HP3.out
  obtain ⟨d0, d1, d2, d3, d4⟩ := blk5 HD3.out
  have e5 := bne_f14 e4
  subst esm
  have HPc := Lib.hid hP
  have HWP := Lib.hid hp
  have HHl := Lib.hid hH
  have hji : (j : Int) ≤ 1048576 := by omega
  have Hj := Lib.hid hj
  clear hP hH hj
  clear hp
  have hfz := fun j => HP3.out.frozen j
  have hpg : ¬ (p = g1) := Hpg.out
  have hgp : ¬ (g1 = p) := fun e => Hpg.out e.symm
  go_wp2_with fail
  go_quiet (fail)
  go_wp2_with fail
  obtain ⟨w4, hw4⟩ : ∃ w4, ((((((w3.drewN nq).setCell ⟨p, 6, none⟩ (.bool false)).setCell ⟨p, 7, none⟩ (.bool false)).setCell ⟨p, 8, none⟩ (.bool false)).setCell ⟨p, 9, none⟩ (.int .i64 q)).setCell ⟨p, 10, none⟩ (.slice hA nh hc)) = w4 := ⟨_, rfl⟩
  rw [hw4]
  have hbz : Below w3.heap.size w3 (w3.drewN nq) := below_drewN (Below.refl _ _) _
  have hp4 : Blk w4 p 68 (rxA a b n true true false false false false q (.slice hA nh hc) si true ss sq hv pv j) := by
    rw [← hw4]
    simpa [rxA] using (((((HP3.out.below hbz HP3.out.lt).set_ 6 (.bool false)).set_ 7 (.bool false)).set_ 8 (.bool false)).set_ 9 (.int .i64 q)).set_ 10 (.slice hA nh hc)
  have hg4 : w3.grownBy w4 (some p) := by rw [← hw4]; exact gr_set (gr_set (gr_set (gr_set (gr_set (gr_below hbz) 6 _) 7 _) 8 _) 9 _) 10 _
  have HD4 := Lib.hid (HD3.out.grown hg4 (fun e => Hpg.out (by injection e with e; exact e.symm)))
  have HP4 := Lib.hid hp4
  have Hg4 := Lib.hid (gr_trans (gr_below (row := some p) Hb3.out) hg4)
  clear x0 x1 x2 x3 x4 x5 x6 x7 x8 x9 xa xb xc xd xe xf xg xh d0 d1 d2 d3 d4 hfz hw4 hg4 hp4 hpg hgp hbz
  obtain ⟨x0, x1, x2, x3, x4, x5, x6, x7, x8, x9, xa, xb, xc, xd, xe, xf, xg, xh⟩ := blk18 HP4.out
  refine wp_drew_tail 10 (by kernel_rfl) (by kernel_rfl) ?_
  simp only [List.take_succ_cons, List.take_zero, List.drop_succ_cons, List.drop_zero]
  repeat (go_big_quiet_step (exact top14_q _ _))
  refine wpQuiet_nil ?_
  rintro wz ⟨dq2, hwz⟩
  have hbz : Below w4.heap.size w4 wz := by rw [hwz]; exact below_drewN (Below.refl _ _) _
  have HPz := Lib.hid (HP4.out.below hbz HP4.out.lt)
  have HDz := Lib.hid (HD4.out.below hbz HD4.out.lt)
  have Hgz := Lib.hid (gr_trans Hg4.out (gr_below (row := some p) hbz))
  clear x0 x1 x2 x3 x4 x5 x6 x7 x8 x9 xa xb xc xd xe xf xg xh hwz hbz
  obtain ⟨x0, x1, x2, x3, x4, x5, x6, x7, x8, x9, xa, xb, xc, xd, xe, xf, xg, xh⟩ := blk18 HPz.out
  obtain ⟨d0, d1, d2, d3, d4⟩ := blk5 HDz.out
  have hfz := fun j => HPz.out.frozen j
  have hpg : ¬ (p = g1) := Hpg.out
  have hgp : ¬ (g1 = p) := fun e => Hpg.out e.symm
  go_wp2_with fail
  obtain ⟨w5, hw5⟩ : ∃ w5, (wz.setCell ⟨p, 2, none⟩ (.int .i64 ((n + 1) % 4294967296))).setCell ⟨p, 17, none⟩ (.int .i64 ((j : Int) + 1)) = w5 := ⟨_, rfl⟩
  rw [hw5]
  have hp5 : Blk w5 p 68 (rxA a b (exNext n) true true false false false false q (.slice hA nh hc) si true ss sq hv pv (j + 1 : Nat)) := by
    rw [← hw5]
    simpa [rxA, exNext] using (HPz.out.set_ 2 (.int .i64 ((n + 1) % 4294967296))).set_ 17 (.int .i64 ((j : Int) + 1))
  have hg5 : w.grownBy w5 (some p) := by rw [← hw5]; exact gr_set (gr_set Hgz.out 2 _) 17 _
  have HPc5 := Lib.hid (HPc.out.grown HWP.out (by decide) (by decide) hg5)
  have HSay := Lib.hid (rxSay_any p _ _ _ _ _ _ _ _ _ _ _ _ _ _ _ _ _ (j + 1) V H w5 hp5 HPc5.out Hj.out (by have := HHl.out; omega))
  have Hg5 := Lib.hid hg5
  have HP5 := Lib.hid hp5
  clear x0 x1 x2 x3 x4 x5 x6 x7 x8 x9 xa xb xc xd xe xf xg xh d0 d1 d2 d3 d4 hfz hw5 hg5 hpg hgp hp5
  with_reducible refine Calls.mono HSay.out ?_
  rintro r w7 ⟨rfl, ⟨hv7, hp7, ho7⟩, hg7⟩
  have HF := Lib.hid (And.intro hp7 (And.intro ho7 (And.intro (HPc5.out.grown HP5.out (by decide) (by decide) hg7) (gr_trans Hg5.out hg7))))
  clear hp7 ho7 hg7
  go_wp2
  go_ret
  exact ⟨rfl, ⟨hv7, HF.out.1, HF.out.2.1, HF.out.2.2.1⟩, HF.out.2.2.2⟩
set_option maxHeartbeats 8000000 in
set_option maxRecDepth 100000 in
theorem rxFol_true (p : Nat) (a b n : Int) (l1 l2 l3 : Bool) (l4 : Int) (LA : Option Addr) (Ln Lc : Nat) (si sm ss : Bool) (sq : Int) (hv pv : Value) (j : Nat) (q : Int) (hA : Option Addr) (nh hc : Nat) (A : Option Addr) (nn cap : Nat) (hq0 : ¬ q < 0) (hq2 : ¬ 4294967296 ≤ q) (hn0 : 0 ≤ n) (hn1 : n ≤ 4294967295) (ht : decide (false = l1 ∧ true = l2 ∧ true = l3 ∧ q = l4) = false) (e4 : (q == (n + 1) % 4294967296) = true) (w : World) (hp : Blk w p 68 (rxA a b n true false false l1 l2 l3 l4 (.slice LA Ln Lc) si sm ss sq hv pv j)) {V : List SlV} {H : List Hd} (hP : Pcs w pv V H) (hj : j + 1 ≤ 2 ^ 20) (hH : H.length ≤ 2 ^ 19) :
    Calls Try.prog 12 #[.pointer (some ⟨p, 0, none⟩), .agg #[.bool false, .bool true, .bool true, .int .i64 q, .slice hA nh hc], .slice A nn cap] w fun r w' => r = .returned (.int .i64 2) ∧ (∃ hv', Blk w' p 68 (rxA a b q true false false false true true q (.slice hA nh hc) false (moreP H (j + 1)) false q hv' pv (j + 1 : Nat)) ∧ OwnR 56 7 Hd.cells w' 0 hv' (pcP H (j + 1)) ∧ Pcs w' pv V H) ∧ w.grownBy w' (some p) := by
  obtain ⟨w1, hw1⟩ : ∃ w1, w.alloc (.cells #[.bool false, .bool true, .bool true, .int .i64 q, .slice hA nh hc] 33) = w1 := ⟨_, rfl⟩
  obtain ⟨g1, hg1⟩ : ∃ g1, w.heap.size = g1 := ⟨_, rfl⟩
  have hd := Blk.new w 33 #[.bool false, .bool true, .bool true, .int .i64 q, .slice hA nh hc]
  have hb1 := below_new w (.cells #[.bool false, .bool true, .bool true, .int .i64 q, .slice hA nh hc] 33)
  rw [hw1, hg1] at hd
  rw [hw1] at hb1
  have hp1 := hp.below hb1 hp.lt
  have Hb1 := Lib.hid hb1
  have HP1 := Lib.hid hp1
  have HD := Lib.hid hd
  have Hpg := Lib.hid (show p ≠ g1 from by have := hp.lt; omega)
  have hrem : (n + 1).tmod 4294967296 = (n + 1) % 4294967296 := Int.tmod_eq_emod_of_nonneg (by omega)
  have HA := Lib.hid (fun W => alike_any false true true q (.slice hA nh hc) l1 l2 l3 l4 (.slice LA Ln Lc) ht ⟨_, _, _, rfl⟩ ⟨_, _, _, rfl⟩ W)
  obtain ⟨x0, x1, x2, x3, x4, x5, x6, x7, x8, x9, xa, xb, xc, xd, xe, xf, xg, xh⟩ := blk18 hp1
  obtain ⟨d0, d1, d2, d3, d4⟩ := blk5 hd
  clear hb1 hd hp1 xb xc xd xe xf xg xh ht
  go_enter Try.func12, Try.ntmps12
  go_wp2_with fail
  go_quiet (exact top14_q _ _)
  go_wp2_with fail
  obtain ⟨w2, hw2⟩ : ∃ w2, w1.drewN nq = w2 := ⟨_, rfl⟩
  rw [hw2]
  have hb2 : Below w1.heap.size w1 w2 := by rw [← hw2]; exact below_drewN (Below.refl _ _) _
  have HP2 := Lib.hid (HP1.out.below hb2 HP1.out.lt)
  have HD2 := Lib.hid (HD.out.below hb2 HD.out.lt)
  have Hb2 := Lib.hid (below_trans Hb1.out Hb1.out.size hb2)
  have CA := Lib.hid (fun dd os => Calls.regrown_of (w := w2) (d := dd) (os := os) (HA.out _))
  clear x0 x1 x2 x3 x4 x5 x6 x7 x8 x9 xa d0 d1 d2 d3 d4 hw2 hb2 HP1 HD HA
  obtain ⟨x0, x1, x2, x3, x4, x5, x6, x7, x8, x9, xa, xb, xc, xd, xe, xf, xg, xh⟩ := blk18 HP2.out
  obtain ⟨d0, d1, d2, d3, d4⟩ := blk5 HD2.out
  have d0 := cell_regrown d0
  have d1 := cell_regrown d1
  have d2 := cell_regrown d2
  have d3 := cell_regrown d3
  have d4 := cell_regrown d4
  have x6 := cell_regrown x6
  have x7 := cell_regrown x7
  have x8 := cell_regrown x8
  have x9 := cell_regrown x9
  have xa := cell_regrown xa
  clear x0 x1 x2 x3 x4 x5 xb xc xd xe xf xg xh
  refine wp_region_quiet_below (by kernel_rfl) (by kernel_rfl) ?_
  repeat (go_big_quiet_step (exact CA.out _ _))
  refine wpQuiet_nil ?_
  rintro w3 ⟨⟨dq, osq⟩, hw3⟩
  have hb3 := below_regrown w2 dq osq
  rw [← hw3] at hb3
  have HP3 := Lib.hid (HP2.out.below hb3 HP2.out.lt)
  have HD3 := Lib.hid (HD2.out.below hb3 HD2.out.lt)
  have Hb3 := Lib.hid (below_trans Hb2.out Hb2.out.size hb3)
  clear d0 d1 d2 d3 d4 x6 x7 x8 x9 xa hw3 hb3 CA HP2 HD2
  obtain ⟨x0, x1, x2, x3, x4, x5, x6, x7, x8, x9, xa, xb, xc, xd, xe, xf, xg, xh⟩ := blk18 HP3.out
  obtain ⟨d0, d1, d2, d3, d4⟩ := blk5 HD3.out
  have e5 := bne_f14 e4
  have HPc := Lib.hid hP
  have HWP := Lib.hid hp
  have HHl := Lib.hid hH
  have hji : (j : Int) ≤ 1048576 := by omega
  have Hj := Lib.hid hj
  clear hP hH hj hp
  have hfz := fun j => HP3.out.frozen j
  have hpg : ¬ (p = g1) := Hpg.out
  have hgp : ¬ (g1 = p) := fun e => Hpg.out e.symm
  go_wp2_with fail
  go_quiet (exact top14_q _ _)
  rename Nat => nq1
  go_wp2_with fail
  go_quiet (fail)
  go_wp2_with fail
  obtain ⟨w4, hw4⟩ : ∃ w4, ((((((((w3.drewN (nq1 + nq)).setCell ⟨p, 6, none⟩ (.bool false)).setCell ⟨p, 7, none⟩ (.bool true)).setCell ⟨p, 8, none⟩ (.bool true)).setCell ⟨p, 9, none⟩ (.int .i64 q)).setCell ⟨p, 10, none⟩ (.slice hA nh hc)).setCell ⟨p, 2, none⟩ (.int .i64 q)).setCell ⟨p, 17, none⟩ (.int .i64 ((j : Int) + 1))) = w4 := ⟨_, rfl⟩
  rw [hw4]
  have hbz : Below w3.heap.size w3 (w3.drewN (nq1 + nq)) := below_drewN (Below.refl _ _) _
  have hp4 : Blk w4 p 68 (rxA a b q true false false false true true q (.slice hA nh hc) si sm ss sq hv pv (j + 1 : Nat)) := by
    rw [← hw4]
    simpa [rxA] using (((((((HP3.out.below hbz HP3.out.lt).set_ 6 (.bool false)).set_ 7 (.bool true)).set_ 8 (.bool true)).set_ 9 (.int .i64 q)).set_ 10 (.slice hA nh hc)).set_ 2 (.int .i64 q)).set_ 17 (.int .i64 ((j : Int) + 1))
  have hg4 : w3.grownBy w4 (some p) := by rw [← hw4]; exact gr_set (gr_set (gr_set (gr_set (gr_set (gr_set (gr_set (gr_below hbz) 6 _) 7 _) 8 _) 9 _) 10 _) 2 _) 17 _
  have HD4 := Lib.hid (HD3.out.grown hg4 (fun e => Hpg.out (by injection e with e; exact e.symm)))
  have HP4 := Lib.hid hp4
  have Hg4 := Lib.hid (gr_trans (gr_below (row := some p) Hb3.out) hg4)
  have HPc4 := Lib.hid (HPc.out.grown HWP.out (by decide) (by decide) Hg4.out)
  have HSay := Lib.hid (rxSay_any p _ _ _ _ _ _ _ _ _ _ _ _ _ _ _ _ _ (j + 1) V H w4 hp4 HPc4.out Hj.out (by have := HHl.out; omega))
  clear x0 x1 x2 x3 x4 x5 x6 x7 x8 x9 xa xb xc xd xe xf xg xh d0 d1 d2 d3 d4 hfz hw4 hg4 hp4 hpg hgp hbz
  with_reducible refine Calls.mono HSay.out ?_
  rintro r w7 ⟨rfl, ⟨hv7, hp7, ho7⟩, hg7⟩
  obtain ⟨mo, hmo⟩ : ∃ mo, moreP H (j + 1) = mo := ⟨_, rfl⟩
  rw [hmo] at hp7
  have Hmo := Lib.hid hmo
  have HPc7 := Lib.hid (HPc4.out.grown HP4.out (by decide) (by decide) hg7)
  have HP7 := Lib.hid hp7
  have HO7 := Lib.hid ho7
  have HD7 := Lib.hid (HD4.out.grown hg7 (fun e => Hpg.out (by injection e with e; exact e.symm)))
  have Hg7 := Lib.hid (gr_trans Hg4.out hg7)
  clear hp7 ho7 hg7 hmo
  obtain ⟨x0, x1, x2, x3, x4, x5, x6, x7, x8, x9, xa, xb, xc, xd, xe, xf, xg, xh⟩ := blk18 HP7.out
  obtain ⟨d0, d1, d2, d3, d4⟩ := blk5 HD7.out
  have hfz := fun j => HP7.out.frozen j
  have hpg : ¬ (p = g1) := Hpg.out
  have hgp : ¬ (g1 = p) := fun e => Hpg.out e.symm
  go_wp2
  go_ret
  rw [Hmo.out]
  have hset : Blk (w7.setCell ⟨p, 5, none⟩ (.bool false)) p 68 (rxA a b q true false false false true true q (.slice hA nh hc) false mo false q hv7 pv (j + 1 : Nat)) := by simpa [rxA] using HP7.out.set_ 5 (.bool false)
  exact ⟨rfl, ⟨hv7, hset, HO7.out.kept (grown_set w7 p 5 _) (.inr (own_ne14 HO7.out HP7.out (by decide))), HPc7.out.grown HP7.out (by decide) (by decide) (grown_set w7 p 5 _)⟩, gr_set Hg7.out 5 _⟩
set_option maxHeartbeats 8000000 in
set_option maxRecDepth 100000 in
theorem rxFol_false (p : Nat) (a b n : Int) (l1 l2 l3 : Bool) (l4 : Int) (LA : Option Addr) (Ln Lc : Nat) (si sm ss : Bool) (sq : Int) (hv pv : Value) (j : Nat) (q : Int) (hA : Option Addr) (nh hc : Nat) (A : Option Addr) (nn cap : Nat) (hq0 : ¬ q < 0) (hq2 : ¬ 4294967296 ≤ q) (hn0 : 0 ≤ n) (hn1 : n ≤ 4294967295) (ht : decide (false = l1 ∧ false = l2 ∧ true = l3 ∧ q = l4) = false) (e4 : (q == (n + 1) % 4294967296) = true) (w : World) (hp : Blk w p 68 (rxA a b n true false false l1 l2 l3 l4 (.slice LA Ln Lc) si sm ss sq hv pv j)) {V : List SlV} {H : List Hd} (hP : Pcs w pv V H) (hj : j + 1 ≤ 2 ^ 20) (hH : H.length ≤ 2 ^ 19) :
    Calls Try.prog 12 #[.pointer (some ⟨p, 0, none⟩), .agg #[.bool false, .bool false, .bool true, .int .i64 q, .slice hA nh hc], .slice A nn cap] w fun r w' => r = .returned (.int .i64 2) ∧ (∃ hv', Blk w' p 68 (rxA a b q true false (!moreP H (j + 1)) false false true q (.slice hA nh hc) false (moreP H (j + 1)) false q hv' pv (j + 1 : Nat)) ∧ OwnR 56 7 Hd.cells w' 0 hv' (pcP H (j + 1)) ∧ Pcs w' pv V H) ∧ w.grownBy w' (some p) := by
  obtain ⟨w1, hw1⟩ : ∃ w1, w.alloc (.cells #[.bool false, .bool false, .bool true, .int .i64 q, .slice hA nh hc] 33) = w1 := ⟨_, rfl⟩
  obtain ⟨g1, hg1⟩ : ∃ g1, w.heap.size = g1 := ⟨_, rfl⟩
  have hd := Blk.new w 33 #[.bool false, .bool false, .bool true, .int .i64 q, .slice hA nh hc]
  have hb1 := below_new w (.cells #[.bool false, .bool false, .bool true, .int .i64 q, .slice hA nh hc] 33)
  rw [hw1, hg1] at hd
  rw [hw1] at hb1
  have hp1 := hp.below hb1 hp.lt
  have Hb1 := Lib.hid hb1
  have HP1 := Lib.hid hp1
  have HD := Lib.hid hd
  have Hpg := Lib.hid (show p ≠ g1 from by have := hp.lt; omega)
  have hrem : (n + 1).tmod 4294967296 = (n + 1) % 4294967296 := Int.tmod_eq_emod_of_nonneg (by omega)
  have HA := Lib.hid (fun W => alike_any false false true q (.slice hA nh hc) l1 l2 l3 l4 (.slice LA Ln Lc) ht ⟨_, _, _, rfl⟩ ⟨_, _, _, rfl⟩ W)
  obtain ⟨x0, x1, x2, x3, x4, x5, x6, x7, x8, x9, xa, xb, xc, xd, xe, xf, xg, xh⟩ := blk18 hp1
  obtain ⟨d0, d1, d2, d3, d4⟩ := blk5 hd
  clear hb1 hd hp1 xb xc xd xe xf xg xh ht
  go_enter Try.func12, Try.ntmps12
  go_wp2_with fail
  go_quiet (exact top14_q _ _)
  go_wp2_with fail
  obtain ⟨w2, hw2⟩ : ∃ w2, w1.drewN nq = w2 := ⟨_, rfl⟩
  rw [hw2]
  have hb2 : Below w1.heap.size w1 w2 := by rw [← hw2]; exact below_drewN (Below.refl _ _) _
  have HP2 := Lib.hid (HP1.out.below hb2 HP1.out.lt)
  have HD2 := Lib.hid (HD.out.below hb2 HD.out.lt)
  have Hb2 := Lib.hid (below_trans Hb1.out Hb1.out.size hb2)
  have CA := Lib.hid (fun dd os => Calls.regrown_of (w := w2) (d := dd) (os := os) (HA.out _))
  clear x0 x1 x2 x3 x4 x5 x6 x7 x8 x9 xa d0 d1 d2 d3 d4 hw2 hb2 HP1 HD HA
  obtain ⟨x0, x1, x2, x3, x4, x5, x6, x7, x8, x9, xa, xb, xc, xd, xe, xf, xg, xh⟩ := blk18 HP2.out
  obtain ⟨d0, d1, d2, d3, d4⟩ := blk5 HD2.out
  have d0 := cell_regrown d0
  have d1 := cell_regrown d1
  have d2 := cell_regrown d2
  have d3 := cell_regrown d3
  have d4 := cell_regrown d4
  have x6 := cell_regrown x6
  have x7 := cell_regrown x7
  have x8 := cell_regrown x8
  have x9 := cell_regrown x9
  have xa := cell_regrown xa
  clear x0 x1 x2 x3 x4 x5 xb xc xd xe xf xg xh
  refine wp_region_quiet_below (by kernel_rfl) (by kernel_rfl) ?_
  repeat (go_big_quiet_step (exact CA.out _ _))
  refine wpQuiet_nil ?_
  rintro w3 ⟨⟨dq, osq⟩, hw3⟩
  have hb3 := below_regrown w2 dq osq
  rw [← hw3] at hb3
  have HP3 := Lib.hid (HP2.out.below hb3 HP2.out.lt)
  have HD3 := Lib.hid (HD2.out.below hb3 HD2.out.lt)
  have Hb3 := Lib.hid (below_trans Hb2.out Hb2.out.size hb3)
  clear d0 d1 d2 d3 d4 x6 x7 x8 x9 xa hw3 hb3 CA HP2 HD2
  obtain ⟨x0, x1, x2, x3, x4, x5, x6, x7, x8, x9, xa, xb, xc, xd, xe, xf, xg, xh⟩ := blk18 HP3.out
  obtain ⟨d0, d1, d2, d3, d4⟩ := blk5 HD3.out
  have e5 := bne_f14 e4
  have HPc := Lib.hid hP
  have HWP := Lib.hid hp
  have HHl := Lib.hid hH
  have hji : (j : Int) ≤ 1048576 := by omega
  have Hj := Lib.hid hj
  clear hP hH hj hp
  have hfz := fun j => HP3.out.frozen j
  have hpg : ¬ (p = g1) := Hpg.out
  have hgp : ¬ (g1 = p) := fun e => Hpg.out e.symm
  go_wp2_with fail
  go_quiet (exact top14_q _ _)
  rename Nat => nq1
  go_wp2_with fail
  go_quiet (fail)
  go_wp2_with fail
  obtain ⟨w4, hw4⟩ : ∃ w4, ((((((((w3.drewN (nq1 + nq)).setCell ⟨p, 6, none⟩ (.bool false)).setCell ⟨p, 7, none⟩ (.bool false)).setCell ⟨p, 8, none⟩ (.bool true)).setCell ⟨p, 9, none⟩ (.int .i64 q)).setCell ⟨p, 10, none⟩ (.slice hA nh hc)).setCell ⟨p, 2, none⟩ (.int .i64 q)).setCell ⟨p, 17, none⟩ (.int .i64 ((j : Int) + 1))) = w4 := ⟨_, rfl⟩
  rw [hw4]
  have hbz : Below w3.heap.size w3 (w3.drewN (nq1 + nq)) := below_drewN (Below.refl _ _) _
  have hp4 : Blk w4 p 68 (rxA a b q true false false false false true q (.slice hA nh hc) si sm ss sq hv pv (j + 1 : Nat)) := by
    rw [← hw4]
    simpa [rxA] using (((((((HP3.out.below hbz HP3.out.lt).set_ 6 (.bool false)).set_ 7 (.bool false)).set_ 8 (.bool true)).set_ 9 (.int .i64 q)).set_ 10 (.slice hA nh hc)).set_ 2 (.int .i64 q)).set_ 17 (.int .i64 ((j : Int) + 1))
  have hg4 : w3.grownBy w4 (some p) := by rw [← hw4]; exact gr_set (gr_set (gr_set (gr_set (gr_set (gr_set (gr_set (gr_below hbz) 6 _) 7 _) 8 _) 9 _) 10 _) 2 _) 17 _
  have HD4 := Lib.hid (HD3.out.grown hg4 (fun e => Hpg.out (by injection e with e; exact e.symm)))
  have HP4 := Lib.hid hp4
  have Hg4 := Lib.hid (gr_trans (gr_below (row := some p) Hb3.out) hg4)
  have HPc4 := Lib.hid (HPc.out.grown HWP.out (by decide) (by decide) Hg4.out)
  have HSay := Lib.hid (rxSay_any p _ _ _ _ _ _ _ _ _ _ _ _ _ _ _ _ _ (j + 1) V H w4 hp4 HPc4.out Hj.out (by have := HHl.out; omega))
  clear x0 x1 x2 x3 x4 x5 x6 x7 x8 x9 xa xb xc xd xe xf xg xh d0 d1 d2 d3 d4 hfz hw4 hg4 hp4 hpg hgp hbz
  with_reducible refine Calls.mono HSay.out ?_
  rintro r w7 ⟨rfl, ⟨hv7, hp7, ho7⟩, hg7⟩
  obtain ⟨mo, hmo⟩ : ∃ mo, moreP H (j + 1) = mo := ⟨_, rfl⟩
  rw [hmo] at hp7
  have Hmo := Lib.hid hmo
  have HPc7 := Lib.hid (HPc4.out.grown HP4.out (by decide) (by decide) hg7)
  have HP7 := Lib.hid hp7
  have HO7 := Lib.hid ho7
  have HD7 := Lib.hid (HD4.out.grown hg7 (fun e => Hpg.out (by injection e with e; exact e.symm)))
  have Hg7 := Lib.hid (gr_trans Hg4.out hg7)
  clear hp7 ho7 hg7 hmo
  obtain ⟨x0, x1, x2, x3, x4, x5, x6, x7, x8, x9, xa, xb, xc, xd, xe, xf, xg, xh⟩ := blk18 HP7.out
  obtain ⟨d0, d1, d2, d3, d4⟩ := blk5 HD7.out
  have hfz := fun j => HP7.out.frozen j
  have hpg : ¬ (p = g1) := Hpg.out
  have hgp : ¬ (g1 = p) := fun e => Hpg.out e.symm
  go_wp2
  go_ret
  rw [Hmo.out]
  have hset : Blk (w7.setCell ⟨p, 5, none⟩ (.bool (!mo))) p 68 (rxA a b q true false (!mo) false false true q (.slice hA nh hc) false mo false q hv7 pv (j + 1 : Nat)) := by simpa [rxA] using HP7.out.set_ 5 (.bool (!mo))
  exact ⟨rfl, ⟨hv7, hset, HO7.out.kept (grown_set w7 p 5 _) (.inr (own_ne14 HO7.out HP7.out (by decide))), HPc7.out.grown HP7.out (by decide) (by decide) (grown_set w7 p 5 _)⟩, gr_set Hg7.out 5 _⟩

end Go.Proofs.Ytfpjkeddcagfcaa

/-
  Layer 14: the document lays all pieces out.
-/
namespace Go.Proofs.Ytfpjkeddcagfcaa
open Go.RowKit Go.Sort

theorem infoHeads14 : (Try.prog.info? 31).map (fun i => (i.zero, i.size, i.bytes)) = some (some (.slice none 0 0), 1, 24) := by kernel_rfl
theorem onesSl (x : SlV) : ∀ u ∈ vcell x, u.oneCell' = true := by
  intro u hu
  simp [SlV.val] at hu
  rw [hu]; rfl
/-- pieces laid out so far -/
structure Laid (w : World) (B : Nat) (pv : Value) (V : List SlV) (H : List Hd) : Prop where
  row : OwnR 31 1 vcell w B pv V
  each : ∀ j (hj : j < V.length), OwnR 56 7 Hd.cells w B V[j].val (pieceAt H (3 * j))
theorem own_apart {α β : Type} {e e' : TypeId} {C C' B B' : Nat} {cells : α → List Value} {cells' : β → List Value} {w : World} {v v' : Value} {L : List α} {L' : List β} (h : OwnR e C cells w B v L) (h' : OwnR e' C' cells' w B' v' L') (hne : e ≠ e') : v.ownBlock = none ∨ v.ownBlock ≠ v'.ownBlock := by
  rcases h'.2 with ⟨g', -⟩ | ⟨g', cap, cur, h1, h2, h3, h4⟩
  · rw [g']
    cases hv : v.ownBlock with
    | none => exact .inl rfl
    | some m => exact .inr (by simp [Value.ownBlock])
  · have hb : Blk w g' e' cur := h3
    right
    rw [h1]
    exact own_ne14 h hb hne
section
variable {w w' : World} {B : Nat} {pv : Value} {V : List SlV} {H : List Hd}
theorem Laid.below (h : Laid w B pv V H) (hb : Below w.heap.size w w') : Laid w' B pv V H := ⟨h.row.below hb, fun j hj => (h.each j hj).below hb⟩
theorem Laid.apart {L : List Hd} {B' : Nat} {v : Value} (h : Laid w B pv V H) (ho : OwnR 56 7 Hd.cells w B' v L) (hx : ∀ j (hj : j < V.length), V[j].val.ownBlock = none ∨ V[j].val.ownBlock ≠ v.ownBlock) (hg : w.grownBy w' v.ownBlock) : Laid w' B pv V H :=
  ⟨h.row.kept hg (own_apart h.row ho (by decide)), fun j hj => (h.each j hj).kept hg (hx j hj)⟩
end
set_option maxHeartbeats 8000000 in
set_option maxRecDepth 100000 in
theorem lay_any (A : Option Addr) (c n : Nat) (H : List Hd) (w : World) (B : Nat) (h : RowsAt 7 Hd.cells w B A H) (hB : B ≤ w.heap.size) (hn : H.length = n) (hl : n ≤ 2 ^ 20) :
    Calls Try.prog 27 #[.slice A n c] w fun r w' => ∃ pv, r = .returned pv ∧ (∃ V, Pcs w' pv V H) ∧ Below w.heap.size w w' := by
  have HR := Lib.hid (h.more hB)
  have Hn := Lib.hid hn
  have hni : (n : Int) ≤ 1048576 := by omega
  clear h hB hn
  go_enter Try.func27, Try.ntmps27
  go_wp2
  go_loopw [3, 4] (fun v3 v4 wr => ∃ (j : Nat) (V : List SlV) (A3 : Option Addr) (c3 : Nat), v4 = .int .i64 (3 * j : Nat) ∧ v3 = .slice A3 j c3 ∧ V.length = j ∧ 3 * j ≤ n + 2 ∧ Hid (Laid wr w.heap.size (.slice A3 j c3) V H ∧ Below w.heap.size w wr)) (fun _ v4 _ => n + 3 - (intOf v4).toNat)
  case atStart => exact ⟨0, [], none, 0, rfl, rfl, rfl, by omega, Lib.hid ⟨⟨OwnR.nil _ _, by simp⟩, Below.refl _ _⟩⟩
  case round =>
    obtain ⟨j, V, A3, c3, rfl, rfl, hV, hj, HJ⟩ := hrel
    obtain ⟨i, hi⟩ : ∃ i, 3 * j = i := ⟨_, rfl⟩
    rw [hi] at hj ⊢
    have HV := Lib.hid hV
    have Hi := Lib.hid hi
    have hii : (i : Int) ≤ 1048578 := by omega
    clear hV hi
    by_cases hlt : i < n
    · have hlti : (i : Int) < (n : Int) := by omega
      obtain ⟨wo, hwo⟩ : ∃ wo, wo = wr := ⟨_, rfl⟩
      subst hwo
      go_wp2
      go_loopw [5, 6] (fun v5 v6 wr => ∃ k t : Nat, v6 = .int .i64 k ∧ k = i + t ∧ t ≤ 3 ∧ k ≤ n ∧ Hid (Laid wr w.heap.size (.slice A3 j c3) V H ∧ OwnR 56 7 Hd.cells wr w.heap.size v5 ((H.drop i).take t) ∧ (∀ j (hj : j < V.length), V[j].val.ownBlock = none ∨ V[j].val.ownBlock ≠ v5.ownBlock) ∧ Below w.heap.size w wr)) (fun _ v6 _ => i + 4 - (intOf v6).toNat)
      case atStart => exact ⟨i, 0, rfl, rfl, by omega, by omega, Lib.hid ⟨HJ.out.1, OwnR.nil _ _, (fun j hj => by cases h : V[j].val.ownBlock with | none => exact .inl rfl | some m => exact .inr (by simp [Value.ownBlock])), HJ.out.2⟩⟩
      case round =>
        obtain ⟨k, t, rfl, hkt, ht, hkn, HI⟩ := hrel
        obtain ⟨A5, c5, hv5⟩ := HI.out.2.1.shape
        obtain ⟨n5, hn5⟩ : ∃ z, ((H.drop i).take t).length = z := ⟨_, rfl⟩
        rw [hn5] at hv5
        subst hv5
        have Hn5 := Lib.hid hn5
        have Hkt := Lib.hid hkt
        clear hn5 hkt
        by_cases hin : k < i + 3 ∧ k < n
        · have hk3 : (k : Int) < (i : Int) + 3 := by omega
          have hkn2 : (k : Int) < (n : Int) := by omega
          obtain ⟨g, o, hA, -, z0, z1, z2, z3, z4, z5, z6⟩ := row_hd7 (HR.out.below HI.out.2.2.2) k (by have := Hn.out; omega)
          have HA := Lib.hid hA
          rw [hA]
          have Hin := Lib.hid hin
          have Hx := Lib.hid (show (H.drop i).take (t + 1) = (H.drop i).take t ++ [H[k]'(by have := Hn.out; omega)] by
            have h1 : t < (H.drop i).length := by rw [List.length_drop]; have := Hn.out; have := Hkt.out; omega
            rw [List.take_succ_eq_append_getElem h1, List.getElem_drop]
            congr 2
            have := Hkt.out
            subst this
            rfl)
          have hk9 : k < H.length := by have := Hn.out; omega
          obtain ⟨x, hx⟩ : ∃ x, H[k] = x := ⟨_, rfl⟩
          rw [hx] at z0 z1 z2 z3 z4 z5 z6 Hx
          clear hx hin hkn hA
          obtain ⟨y1, y2, y3, y4, y5, y6, y7⟩ := x
          simp only at z0 z1 z2 z3 z4 z5 z6
          go_wp2_with (at_builtin; (refine app_row Hd.cells (fun _ => rfl) (by decide) (bytes := 56) (by decide) infoHd13 rfl Try.underlying31 onesHd13 (by rfl) _ _ (by rfl) w.heap.size _ ((H.drop i).take t) (by rfl) (HI.out.2.1.alloc _) wr.heap.size ⟨y1, y2, y3, y4, y5, y6, y7⟩ (by rfl) (Blk.new _ _ _) (by have := List.length_take_le t (H.drop i); omega) (by have := HI.out.2.2.2.size; simp; omega) ?_); intro v6 w6 hown6 hg6 hor6; have O6 := Lib.hid hown6; have G6 := Lib.hid hg6; have R6 := Lib.hid hor6; clear hown6 hg6 hor6)
          go_roundw
          case measure => have := Hin.out; simp [intOf]; omega
          case rel =>
            have ha := HI.out.1.below (below_new wr (.cells #[.int .i64 y1, .int .i64 y2, .int .i64 y3, .int .i64 y4, .int .i64 y5, .int .i64 y6, .int .i64 y7] 56))
            have hb := HI.out.2.2.2.alloc HI.out.2.2.2.size (.cells #[.int .i64 y1, .int .i64 y2, .int .i64 y3, .int .i64 y4, .int .i64 y5, .int .i64 y6, .int .i64 y7] 56)
            refine ⟨k + 1, t + 1, by go_num, by have := Hkt.out; omega, by have := Hin.out; have := Hkt.out; omega, Hin.out.2, Lib.hid ⟨ha.apart (HI.out.2.1.alloc _) HI.out.2.2.1 G6.out, by rw [Hx.out]; exact O6.out, fun j hj => ?_, hb.grown G6.out hb.size (fun j hj => (HI.out.2.1.block j hj).1)⟩⟩
            rcases R6.out with e | e
            · rw [e]; exact HI.out.2.2.1 j hj
            · rw [e]
              have hlt := (HI.out.1.each j hj).block
              cases hv : V[j].val.ownBlock with
              | none => exact .inl rfl
              | some m => exact .inr (fun e2 => by injection e2 with e2; have := (hlt m hv).2; simp at e2; omega)
        · have htest : ¬ (k : Int) < (i : Int) + 3 ∨ ((k : Int) < (i : Int) + 3 ∧ ¬ (k : Int) < (n : Int)) := by omega
          have Hpc := Lib.hid (show (H.drop i).take t = pieceAt H (3 * j) by
            unfold pieceAt
            rw [Hi.out]
            by_cases h3 : t = 3
            · rw [h3]
            · have : (H.drop i).length ≤ t := by rw [List.length_drop]; have := Hn.out; have := Hkt.out; omega
              rw [List.take_of_length_le this, List.take_of_length_le (by omega)])
          have hpo := HI.out.2.1
          rw [Hpc.out] at hpo
          have Hpo := Lib.hid hpo
          obtain ⟨wq, hwq⟩ : ∃ wq, wq = wr := ⟨_, rfl⟩
          subst hwq
          clear hin hpo
          rcases htest with h1 | ⟨h1, h2⟩
          all_goals
            go_wp2_with (at_builtin; (refine app_row vcell (fun _ => rfl) (by decide) (bytes := 24) (by decide) infoHeads14 rfl Try.underlying66 onesSl (by rfl) _ _ (by rfl) w.heap.size _ V (by rfl) (HI.out.1.row.alloc _) wq.heap.size ⟨A5, n5, c5⟩ (by rfl) (Blk.new _ _ _) (by have := HV.out; have := Hi.out; omega) (by have := HI.out.2.2.2.size; simp; omega) ?_); intro v6 w6 hown6 hg6 hor6; have O6 := Lib.hid hown6; have G6 := Lib.hid hg6; have R6 := Lib.hid hor6; obtain ⟨A6, c6, hv6⟩ := hown6.shape; subst hv6; obtain ⟨m6, hm6⟩ : ∃ z, (V ++ [(⟨A5, n5, c5⟩ : SlV)]).length = z := ⟨_, rfl⟩; rw [hm6] at O6 R6 ⊢; have Hm6 := Lib.hid hm6; clear hown6 hg6 hor6 hm6)
            go_roundw
            case measure => simp [intOf]; omega
            case rel =>
              have ha := HI.out.1.below (below_new wq (.cells #[.slice A5 n5 c5] 31))
              have hb := HI.out.2.2.2.alloc HI.out.2.2.2.size (.cells #[.slice A5 n5 c5] 31)
              have hm6 : m6 = j + 1 := by rw [← Hm6.out, List.length_append, HV.out]; rfl
              refine ⟨j + 1, V ++ [⟨A5, n5, c5⟩], A6, c6, by have := Hi.out; go_num, by rw [hm6], by rw [List.length_append, HV.out]; rfl, by have := Hi.out; omega, Lib.hid ⟨⟨by rw [← hm6]; exact O6.out, fun q hq => ?_⟩, hb.grown G6.out hb.size (fun j hj => (HI.out.1.row.block j hj).1)⟩⟩
              rw [List.length_append] at hq
              by_cases hqj : q < V.length
              · have e : (V ++ [(⟨A5, n5, c5⟩ : SlV)])[q]'(by rw [List.length_append]; exact hq) = V[q] := List.getElem_append_left hqj
                rw [e]
                exact (ha.each q hqj).kept G6.out (own_apart (ha.each q hqj) ha.row (by decide))
              · have hqe : q = V.length := by simp at hq; omega
                subst hqe
                have e : (V ++ [(⟨A5, n5, c5⟩ : SlV)])[V.length]'(by rw [List.length_append]; exact hq) = ⟨A5, n5, c5⟩ := by simp
                rw [e, HV.out]
                exact (Hpo.out.alloc _).kept G6.out (own_apart (Hpo.out.alloc _) ha.row (by decide))
    · have hlti : ¬ (i : Int) < (n : Int) := by omega
      by_cases hj0 : j = 0
      · have hj0i : ((j : Int) == 0) = true := by simp [hj0]
        obtain ⟨wq, hwq⟩ : ∃ wq, wq = wr := ⟨_, rfl⟩
        subst hwq
        go_wp2_with (at_builtin; (refine app_row vcell (fun _ => rfl) (by decide) (bytes := 24) (by decide) infoHeads14 rfl Try.underlying66 onesSl (by rfl) _ _ (by rfl) w.heap.size _ V (by rfl) (HJ.out.1.row.alloc _) wq.heap.size ⟨none, 0, 0⟩ (by rfl) (Blk.new _ _ _) (by have := HV.out; omega) (by have := HJ.out.2.size; simp; omega) ?_); intro v6 w6 hown6 hg6 hor6; have O6 := Lib.hid hown6; have G6 := Lib.hid hg6; have R6 := Lib.hid hor6; clear hown6 hg6 hor6)
        go_ret
        have hb := HJ.out.2.alloc HJ.out.2.size (.cells #[.slice none 0 0] 31)
        have hV0 : V = [] := List.eq_nil_of_length_eq_zero (by rw [HV.out, hj0])
        subst hV0
        have hn0 : n = 0 := by have := Hi.out; omega
        exact ⟨v6, rfl, ⟨_, ⟨O6.out.lower (Nat.zero_le _), (fun q hq => by
          have hq0 : q = 0 := by simpa using hq
          subst hq0
          have hp0 : pieceAt H 0 = [] := by unfold pieceAt; rw [List.eq_nil_of_length_eq_zero (Hn.out.trans hn0)]; rfl
          rw [Nat.mul_zero, hp0]
          exact OwnR.nil _ _), by rw [if_pos (Hn.out.trans hn0)]; rfl⟩⟩, hb.grown G6.out hb.size (fun q hq => (HJ.out.1.row.block q hq).1)⟩
      · have hj0i : ((j : Int) == 0) = false := by simp; omega
        go_wp2
        go_ret
        have hn0 : ¬ H.length = 0 := by have := Hi.out; have := Hn.out; omega
        exact ⟨_, rfl, ⟨V, ⟨HJ.out.1.row.lower (Nat.zero_le _), fun q hq => (HJ.out.1.each q hq).lower (Nat.zero_le _), by rw [if_neg hn0, HV.out, Hn.out]; have := Hi.out; omega⟩⟩, HJ.out.2⟩

end Go.Proofs.Ytfpjkeddcagfcaa

/-
  Layer 14: the document's exchange begins: it follows, or it leads.
-/
namespace Go.Proofs.Ytfpjkeddcagfcaa
open Go.RowKit Go.Sort

set_option maxHeartbeats 8000000 in
set_option maxRecDepth 100000 in
theorem rxYes_first (p : Nat) (a b n : Int) (l1 l2 l3 : Bool) (l4 : Int) (hlv : Value) (si sm ss : Bool) (sq : Int) (hv pv : Value) (q : Int) (hA : Option Addr) (nh hc : Nat) (A : Option Addr) (nn cap : Nat) (hq0 : ¬ q < 0) (hq2 : ¬ 4294967296 ≤ q) (h5 : a < b) (e4 : ((nh : Int) == 0) = true) (_hnhi : (nh : Int) ≤ 1099511627776) (S : List Hd) (hS : S.length ≤ 60) (w : World) (hp : Blk w p 68 (rxA a b n false false false l1 l2 l3 l4 hlv si sm ss sq hv pv 0))
    (HN : ∀ W, w.grownBy W (some p) → Calls Try.prog 14 #[.slice A nn cap] W fun r w' => (∃ u, r = .returned u ∧ OwnR 56 7 Hd.cells w' W.heap.size u S) ∧ Below W.heap.size W w') :
    Calls Try.prog 12 #[.pointer (some ⟨p, 0, none⟩), .agg #[.bool true, .bool true, .bool true, .int .i64 q, .slice hA nh hc], .slice A nn cap] w fun r w' => r = .returned (.int .i64 2) ∧ (∃ hv' pv', Blk w' p 68 (rxA a b (q) true false false true true true q (.slice hA nh hc) false (moreP S 0) false (q) hv' pv' 0) ∧ OwnR 56 7 Hd.cells w' 0 hv' (pcP S 0) ∧ (∃ V, Pcs w' pv' V S)) ∧ w.grownBy w' (some p) := by
  obtain ⟨w1, hw1⟩ : ∃ w1, w.alloc (.cells #[.bool true, .bool true, .bool true, .int .i64 q, .slice hA nh hc] 33) = w1 := ⟨_, rfl⟩
  obtain ⟨g1, hg1⟩ : ∃ g1, w.heap.size = g1 := ⟨_, rfl⟩
  have hd := Blk.new w 33 #[.bool true, .bool true, .bool true, .int .i64 q, .slice hA nh hc]
  have hb1 := below_new w (.cells #[.bool true, .bool true, .bool true, .int .i64 q, .slice hA nh hc] 33)
  rw [hw1, hg1] at hd
  rw [hw1] at hb1
  have hp1 := hp.below hb1 hp.lt
  have Hb1 := Lib.hid hb1
  have HP1 := Lib.hid hp1
  have HD := Lib.hid hd
  have HN' := Lib.hid HN
  have HS := Lib.hid hS
  have Hpg := Lib.hid (show p ≠ g1 from by have := hp.lt; omega)
  obtain ⟨x0, x1, x2, x3, x4, x5, x6, x7, x8, x9, xa, xb, xc, xd, xe, xf, xg, xh⟩ := blk18 hp1
  obtain ⟨d0, d1, d2, d3, d4⟩ := blk5 hd
  clear hp hb1 hd hp1 x4 x5 x6 x7 x8 x9 xa xb xc xd xe xf xg xh HN hS
  go_enter Try.func12, Try.ntmps12
  go_wp2_with fail
  go_quiet (exact top14_q _ _)
  go_wp2_with fail
  go_cut [7] from 10 (fun v wx => v = .bool true ∧ Below w1.heap.size w1 wx)
  case first =>
    go_quiet (fail)
    go_wp2_with fail
    go_meet
    exact ⟨by simp, below_drewN (below_drewN (Below.refl _ _) _) _⟩
  obtain ⟨rfl, hbc⟩ := hcut
  have HPc := Lib.hid (HP1.out.below hbc HP1.out.lt)
  have HDc := Lib.hid (HD.out.below hbc HD.out.lt)
  have Hbc := Lib.hid (below_trans Hb1.out Hb1.out.size hbc)
  clear x0 x1 x2 x3 d0 d1 d2 d3 d4 hbc HP1 HD
  obtain ⟨x0, x1, x2, x3, x4, x5, x6, x7, x8, x9, xa, xb, xc, xd, xe, xf, xg, xh⟩ := blk18 HPc.out
  obtain ⟨d0, d1, d2, d3, d4⟩ := blk5 HDc.out
  have hfz := fun j => HPc.out.frozen j
  go_wp2_with fail
  go_quiet (fail)
  have hpg : ¬ (p = g1) := Hpg.out
  have hgp : ¬ (g1 = p) := fun e => Hpg.out e.symm
  go_wp2_with fail
  obtain ⟨w3, hw3⟩ : ∃ w3, (((wc.drewN nq).setCell ⟨p, 3, none⟩ (.bool true)).setCell ⟨p, 4, none⟩ (.bool false)).setCell ⟨p, 2, none⟩ (.int .i64 q) = w3 := ⟨_, rfl⟩
  rw [hw3]
  have hbz : Below wc.heap.size wc (wc.drewN nq) := below_drewN (Below.refl _ _) _
  have hp3 : Blk w3 p 68 (rxA a b q true false false l1 l2 l3 l4 hlv si sm ss sq hv pv 0) := by
    rw [← hw3]
    simpa [rxA] using (((HPc.out.below hbz HPc.out.lt).set_ 3 (.bool true)).set_ 4 (.bool false)).set_ 2 (.int .i64 q)
  have hg3 : wc.grownBy w3 (some p) := by rw [← hw3]; exact gr_set (gr_set (gr_set (gr_below hbz) 3 _) 4 _) 2 _
  have hd3 := HDc.out.grown hg3 (fun e => Hpg.out (by injection e with e; exact e.symm))
  have Hg3 := Lib.hid (gr_trans (gr_below (row := some p) Hbc.out) hg3)
  have HP3 := Lib.hid hp3
  have HD3 := Lib.hid hd3
  clear x0 x1 x2 x3 x4 x5 x6 x7 x8 x9 xa xb xc xd xe xf xg xh d0 d1 d2 d3 d4 hfz hw3 hg3 hpg hgp hp3 hd3
  with_reducible refine Calls.mono (HN'.out _ Hg3.out) ?_
  rintro r w4 ⟨⟨u4, rfl, hu4⟩, hb4⟩
  obtain ⟨A4, c4, hu4e⟩ := hu4.shape
  obtain ⟨n4, hn4⟩ : ∃ z, S.length = z := ⟨_, rfl⟩
  rw [hn4] at hu4e
  subst hu4e
  have HL := Lib.hid (lay_any A4 c4 n4 S w4 w4.heap.size (OwnR.rows (C := 7) (cells := Hd.cells) (fun _ => rfl) hu4).2 (Nat.le_refl _) hn4 (by have := HS.out; omega))
  have HP4 := Lib.hid (HP3.out.below hb4 HP3.out.lt)
  have HD4 := Lib.hid (HD3.out.below hb4 HD3.out.lt)
  have Hg4 := Lib.hid (gr_trans Hg3.out (gr_below hb4))
  clear hu4 hb4 hn4
  go_wp2_with fail
  with_reducible refine Calls.mono HL.out ?_
  rintro r w5 ⟨pv5, rfl, ⟨V, hpc⟩, hb5⟩
  obtain ⟨A5, c5, hp5e⟩ := hpc.row.shape
  obtain ⟨n5, hn5⟩ : ∃ z, V.length = z := ⟨_, rfl⟩
  rw [hn5] at hp5e
  subst hp5e
  have HPc5 := Lib.hid hpc
  have HP5 := Lib.hid (HP4.out.below hb5 HP4.out.lt)
  have HD5 := Lib.hid (HD4.out.below hb5 HD4.out.lt)
  have Hg5 := Lib.hid (gr_trans Hg4.out (gr_below hb5))
  clear hpc hb5 hn5
  obtain ⟨x0, x1, x2, x3, x4, x5, x6, x7, x8, x9, xa, xb, xc, xd, xe, xf, xg, xh⟩ := blk18 HP5.out
  obtain ⟨d0, d1, d2, d3, d4⟩ := blk5 HD5.out
  have hfz := fun j => HP5.out.frozen j
  have hpg : ¬ (p = g1) := Hpg.out
  have hgp : ¬ (g1 = p) := fun e => Hpg.out e.symm
  go_wp2_with fail
  obtain ⟨w6, hw6⟩ : ∃ w6, (((((w5.setCell ⟨p, 16, none⟩ (.slice A5 n5 c5)).setCell ⟨p, 6, none⟩ (.bool true)).setCell ⟨p, 7, none⟩ (.bool true)).setCell ⟨p, 8, none⟩ (.bool true)).setCell ⟨p, 9, none⟩ (.int .i64 q)).setCell ⟨p, 10, none⟩ (.slice hA nh hc) = w6 := ⟨_, rfl⟩
  rw [hw6]
  have hp6 : Blk w6 p 68 (rxA a b (q) true false false true true true q (.slice hA nh hc) si sm ss sq hv (.slice A5 n5 c5) (0 : Nat)) := by
    rw [← hw6]
    simpa [rxA] using (((((HP5.out.set_ 16 (.slice A5 n5 c5)).set_ 6 (.bool true)).set_ 7 (.bool true)).set_ 8 (.bool true)).set_ 9 (.int .i64 q)).set_ 10 (.slice hA nh hc)
  have hg6 : w5.grownBy w6 (some p) := by rw [← hw6]; exact gr_set (gr_set (gr_set (gr_set (gr_set (grown_set w5 p 16 _) 6 _) 7 _) 8 _) 9 _) 10 _
  have HPc6 := Lib.hid (HPc5.out.grown HP5.out (by decide) (by decide) hg6)
  have HSay := Lib.hid (rxSay_any p _ _ _ _ _ _ _ _ _ _ _ _ _ _ _ _ _ 0 V S w6 hp6 HPc6.out (by omega) (by have := HS.out; omega))
  have Hg6 := Lib.hid (gr_trans Hg5.out hg6)
  have HP6 := Lib.hid hp6
  clear x0 x1 x2 x3 x4 x5 x6 x7 x8 x9 xa xb xc xd xe xf xg xh d0 d1 d2 d3 d4 hfz hw6 hg6 hpg hgp hp6
  with_reducible refine Calls.mono HSay.out ?_
  rintro r w7 ⟨rfl, ⟨hv7, hp7, ho7⟩, hg7⟩
  have HF := Lib.hid (And.intro hp7 (And.intro ho7 (And.intro (HPc6.out.grown HP6.out (by decide) (by decide) hg7) (gr_trans Hg6.out hg7))))
  clear hp7 ho7 hg7
  go_wp2
  go_ret
  exact ⟨rfl, ⟨hv7, _, HF.out.1, HF.out.2.1, V, HF.out.2.2.1⟩, HF.out.2.2.2⟩
set_option maxHeartbeats 8000000 in
set_option maxRecDepth 100000 in
theorem rxYes_second (p : Nat) (a b n : Int) (l1 l2 l3 : Bool) (l4 : Int) (hlv : Value) (si sm ss : Bool) (sq : Int) (hv pv : Value) (m : Bool) (q : Int) (hA : Option Addr) (nh hc : Nat) (A : Option Addr) (nn cap : Nat) (hq0 : ¬ q < 0) (hq2 : ¬ 4294967296 ≤ q) (h5 : b < a) (e4 : (q == n) = true) (_hnhi : (nh : Int) ≤ 1099511627776) (S : List Hd) (hS : S.length ≤ 60) (w : World) (hp : Blk w p 68 (rxA a b n false false false l1 l2 l3 l4 hlv si sm ss sq hv pv 0))
    (HN : ∀ W, w.grownBy W (some p) → Calls Try.prog 14 #[.slice A nn cap] W fun r w' => (∃ u, r = .returned u ∧ OwnR 56 7 Hd.cells w' W.heap.size u S) ∧ Below W.heap.size W w') :
    Calls Try.prog 12 #[.pointer (some ⟨p, 0, none⟩), .agg #[.bool false, .bool m, .bool false, .int .i64 q, .slice hA nh hc], .slice A nn cap] w fun r w' => r = .returned (.int .i64 2) ∧ (∃ hv' pv', Blk w' p 68 (rxA a b (exNext q) true true false false m false q (.slice hA nh hc) false (moreP S 0) true (exNext q) hv' pv' 0) ∧ OwnR 56 7 Hd.cells w' 0 hv' (pcP S 0) ∧ (∃ V, Pcs w' pv' V S)) ∧ w.grownBy w' (some p) := by
  obtain ⟨w1, hw1⟩ : ∃ w1, w.alloc (.cells #[.bool false, .bool m, .bool false, .int .i64 q, .slice hA nh hc] 33) = w1 := ⟨_, rfl⟩
  obtain ⟨g1, hg1⟩ : ∃ g1, w.heap.size = g1 := ⟨_, rfl⟩
  have hd := Blk.new w 33 #[.bool false, .bool m, .bool false, .int .i64 q, .slice hA nh hc]
  have hb1 := below_new w (.cells #[.bool false, .bool m, .bool false, .int .i64 q, .slice hA nh hc] 33)
  rw [hw1, hg1] at hd
  rw [hw1] at hb1
  have hp1 := hp.below hb1 hp.lt
  have Hb1 := Lib.hid hb1
  have HP1 := Lib.hid hp1
  have HD := Lib.hid hd
  have HN' := Lib.hid HN
  have HS := Lib.hid hS
  have Hpg := Lib.hid (show p ≠ g1 from by have := hp.lt; omega)
  obtain ⟨x0, x1, x2, x3, x4, x5, x6, x7, x8, x9, xa, xb, xc, xd, xe, xf, xg, xh⟩ := blk18 hp1
  obtain ⟨d0, d1, d2, d3, d4⟩ := blk5 hd
  clear hp hb1 hd hp1 x4 x5 x6 x7 x8 x9 xa xb xc xd xe xf xg xh HN hS
  go_enter Try.func12, Try.ntmps12
  go_wp2_with fail
  go_quiet (exact top14_q _ _)
  go_wp2_with fail
  go_quiet (fail)
  go_wp2_with fail
  go_cut [8] from 10 (fun v wx => v = .bool true ∧ Below w1.heap.size w1 wx)
  case first =>
    go_quiet (fail)
    go_wp2_with fail
    go_meet
    exact ⟨by simp, below_drewN (below_drewN (below_drewN (Below.refl _ _) _) _) _⟩
  obtain ⟨rfl, hbc⟩ := hcut
  have HPc := Lib.hid (HP1.out.below hbc HP1.out.lt)
  have HDc := Lib.hid (HD.out.below hbc HD.out.lt)
  have Hbc := Lib.hid (below_trans Hb1.out Hb1.out.size hbc)
  clear x0 x1 x2 x3 d0 d1 d2 d3 d4 hbc HP1 HD
  obtain ⟨x0, x1, x2, x3, x4, x5, x6, x7, x8, x9, xa, xb, xc, xd, xe, xf, xg, xh⟩ := blk18 HPc.out
  obtain ⟨d0, d1, d2, d3, d4⟩ := blk5 HDc.out
  have hfz := fun j => HPc.out.frozen j
  have hpg : ¬ (p = g1) := Hpg.out
  have hgp : ¬ (g1 = p) := fun e => Hpg.out e.symm
  go_wp2_with fail
  obtain ⟨w2, hw2⟩ : ∃ w2, ((wc.setCell ⟨p, 3, none⟩ (.bool true)).setCell ⟨p, 4, none⟩ (.bool true)).setCell ⟨p, 2, none⟩ (.int .i64 q) = w2 := ⟨_, rfl⟩
  rw [hw2]
  have hp2 : Blk w2 p 68 (rxA a b q true true false l1 l2 l3 l4 hlv si sm ss sq hv pv 0) := by
    rw [← hw2]
    simpa [rxA] using ((HPc.out.set_ 3 (.bool true)).set_ 4 (.bool true)).set_ 2 (.int .i64 q)
  have hg2 : wc.grownBy w2 (some p) := by rw [← hw2]; exact gr_set (gr_set (grown_set wc p 3 _) 4 _) 2 _
  have hd2 := HDc.out.grown hg2 (fun e => Hpg.out (by injection e with e; exact e.symm))
  have HP2 := Lib.hid hp2
  have HD2 := Lib.hid hd2
  have Hg2 := Lib.hid (gr_trans (gr_below (row := some p) Hbc.out) hg2)
  clear x0 x1 x2 x3 x4 x5 x6 x7 x8 x9 xa xb xc xd xe xf xg xh d0 d1 d2 d3 d4 hfz hw2 hg2 hpg hgp
  obtain ⟨x0, x1, x2, x3, x4, x5, x6, x7, x8, x9, xa, xb, xc, xd, xe, xf, xg, xh⟩ := blk18 hp2
  obtain ⟨d0, d1, d2, d3, d4⟩ := blk5 hd2
  have hfz := fun j => hp2.frozen j
  have hrem : (q + 1).tmod 4294967296 = (q + 1) % 4294967296 := Int.tmod_eq_emod_of_nonneg (by omega)
  clear hp2 hd2
  refine wp_drew_tail 8 (by kernel_rfl) (by kernel_rfl) ?_
  simp only [List.take_succ_cons, List.take_zero, List.drop_succ_cons, List.drop_zero]
  repeat (go_big_quiet_step (exact top14_q _ _))
  refine wpQuiet_nil ?_
  rintro wz ⟨dq, hwz⟩
  have hbz : Below w2.heap.size w2 wz := by rw [hwz]; exact below_drewN (Below.refl _ _) _
  have HPz := Lib.hid (HP2.out.below hbz HP2.out.lt)
  have HDz := Lib.hid (HD2.out.below hbz HD2.out.lt)
  have Hgz := Lib.hid (gr_trans Hg2.out (gr_below (row := some p) hbz))
  clear x0 x1 x2 x3 x4 x5 x6 x7 x8 x9 xa xb xc xd xe xf xg xh d0 d1 d2 d3 d4 hfz hwz hbz
  obtain ⟨x0, x1, x2, x3, x4, x5, x6, x7, x8, x9, xa, xb, xc, xd, xe, xf, xg, xh⟩ := blk18 HPz.out
  obtain ⟨d0, d1, d2, d3, d4⟩ := blk5 HDz.out
  have hfz := fun j => HPz.out.frozen j
  have hpg : ¬ (p = g1) := Hpg.out
  have hgp : ¬ (g1 = p) := fun e => Hpg.out e.symm
  go_wp2_with fail
  obtain ⟨w3, hw3⟩ : ∃ w3, wz.setCell ⟨p, 2, none⟩ (.int .i64 ((q + 1) % 4294967296)) = w3 := ⟨_, rfl⟩
  rw [hw3]
  have hp3 : Blk w3 p 68 (rxA a b (exNext q) true true false l1 l2 l3 l4 hlv si sm ss sq hv pv 0) := by
    rw [← hw3]
    simpa [rxA, exNext] using HPz.out.set_ 2 (.int .i64 ((q + 1) % 4294967296))
  have hg3 : wz.grownBy w3 (some p) := by rw [← hw3]; exact grown_set wz p 2 _
  have hd3 := HDz.out.grown hg3 (fun e => Hpg.out (by injection e with e; exact e.symm))
  have Hg3 := Lib.hid (gr_trans Hgz.out hg3)
  have HP3 := Lib.hid hp3
  have HD3 := Lib.hid hd3
  clear x0 x1 x2 x3 x4 x5 x6 x7 x8 x9 xa xb xc xd xe xf xg xh d0 d1 d2 d3 d4 hfz hw3 hg3 hpg hgp hp3 hd3
  with_reducible refine Calls.mono (HN'.out _ Hg3.out) ?_
  rintro r w4 ⟨⟨u4, rfl, hu4⟩, hb4⟩
  obtain ⟨A4, c4, hu4e⟩ := hu4.shape
  obtain ⟨n4, hn4⟩ : ∃ z, S.length = z := ⟨_, rfl⟩
  rw [hn4] at hu4e
  subst hu4e
  have HL := Lib.hid (lay_any A4 c4 n4 S w4 w4.heap.size (OwnR.rows (C := 7) (cells := Hd.cells) (fun _ => rfl) hu4).2 (Nat.le_refl _) hn4 (by have := HS.out; omega))
  have HP4 := Lib.hid (HP3.out.below hb4 HP3.out.lt)
  have HD4 := Lib.hid (HD3.out.below hb4 HD3.out.lt)
  have Hg4 := Lib.hid (gr_trans Hg3.out (gr_below hb4))
  clear hu4 hb4 hn4
  go_wp2_with fail
  with_reducible refine Calls.mono HL.out ?_
  rintro r w5 ⟨pv5, rfl, ⟨V, hpc⟩, hb5⟩
  obtain ⟨A5, c5, hp5e⟩ := hpc.row.shape
  obtain ⟨n5, hn5⟩ : ∃ z, V.length = z := ⟨_, rfl⟩
  rw [hn5] at hp5e
  subst hp5e
  have HPc5 := Lib.hid hpc
  have HP5 := Lib.hid (HP4.out.below hb5 HP4.out.lt)
  have HD5 := Lib.hid (HD4.out.below hb5 HD4.out.lt)
  have Hg5 := Lib.hid (gr_trans Hg4.out (gr_below hb5))
  clear hpc hb5 hn5
  obtain ⟨x0, x1, x2, x3, x4, x5, x6, x7, x8, x9, xa, xb, xc, xd, xe, xf, xg, xh⟩ := blk18 HP5.out
  obtain ⟨d0, d1, d2, d3, d4⟩ := blk5 HD5.out
  have hfz := fun j => HP5.out.frozen j
  have hpg : ¬ (p = g1) := Hpg.out
  have hgp : ¬ (g1 = p) := fun e => Hpg.out e.symm
  go_wp2_with fail
  obtain ⟨w6, hw6⟩ : ∃ w6, (((((w5.setCell ⟨p, 16, none⟩ (.slice A5 n5 c5)).setCell ⟨p, 6, none⟩ (.bool false)).setCell ⟨p, 7, none⟩ (.bool m)).setCell ⟨p, 8, none⟩ (.bool false)).setCell ⟨p, 9, none⟩ (.int .i64 q)).setCell ⟨p, 10, none⟩ (.slice hA nh hc) = w6 := ⟨_, rfl⟩
  rw [hw6]
  have hp6 : Blk w6 p 68 (rxA a b (exNext q) true true false false m false q (.slice hA nh hc) si sm ss sq hv (.slice A5 n5 c5) (0 : Nat)) := by
    rw [← hw6]
    simpa [rxA] using (((((HP5.out.set_ 16 (.slice A5 n5 c5)).set_ 6 (.bool false)).set_ 7 (.bool m)).set_ 8 (.bool false)).set_ 9 (.int .i64 q)).set_ 10 (.slice hA nh hc)
  have hg6 : w5.grownBy w6 (some p) := by rw [← hw6]; exact gr_set (gr_set (gr_set (gr_set (gr_set (grown_set w5 p 16 _) 6 _) 7 _) 8 _) 9 _) 10 _
  have HPc6 := Lib.hid (HPc5.out.grown HP5.out (by decide) (by decide) hg6)
  have HSay := Lib.hid (rxSay_any p _ _ _ _ _ _ _ _ _ _ _ _ _ _ _ _ _ 0 V S w6 hp6 HPc6.out (by omega) (by have := HS.out; omega))
  have Hg6 := Lib.hid (gr_trans Hg5.out hg6)
  have HP6 := Lib.hid hp6
  clear x0 x1 x2 x3 x4 x5 x6 x7 x8 x9 xa xb xc xd xe xf xg xh d0 d1 d2 d3 d4 hfz hw6 hg6 hpg hgp hp6
  with_reducible refine Calls.mono HSay.out ?_
  rintro r w7 ⟨rfl, ⟨hv7, hp7, ho7⟩, hg7⟩
  have HF := Lib.hid (And.intro hp7 (And.intro ho7 (And.intro (HPc6.out.grown HP6.out (by decide) (by decide) hg7) (gr_trans Hg6.out hg7))))
  clear hp7 ho7 hg7
  go_wp2
  go_ret
  exact ⟨rfl, ⟨hv7, _, HF.out.1, HF.out.2.1, V, HF.out.2.2.1⟩, HF.out.2.2.2⟩

end Go.Proofs.Ytfpjkeddcagfcaa
