/-
  Layer 14: an exchange hears its first piece: the example that each law asks first; an exchange that is not there.
-/
import Derived.Test.YtfpjkeddcagfcaaBaa
import Derived.Test.YtfpjkeddcagfcaaBab
import Derived.Test.YtfpjkeddcagfcaaBac
import Derived.Test.YtfpjkeddcagfcaaBad
import Derived.Test.YtfpjkeddcagfcaaBae
namespace Go.Proofs.Ytfpjkeddcagfcaa
open Go.RowKit Go.Sort

set_option maxHeartbeats 8000000 in
set_option maxRecDepth 100000 in
theorem hear_w (p : Nat) (w : World) (hp : Blk w p 65 (exA 1 2 5 false false false false false false 0 true true true 5 (.slice none 0 0) (.pointer none))) :
    Calls Try.prog 11 #[.pointer (some ⟨p, 0, none⟩), .agg #[.bool true, .bool true, .bool true, .int .i64 9, .slice none 0 0], .slice none 0 0] w fun r w' => r = .returned (.int .i64 2) ∧ (∃ s, Blk w' p 65 (exA 1 2 9 true false false true true true 9 false false false 9 (.slice none 0 0) (.pointer (some ⟨s, 0, none⟩)))) ∧ w.grownBy w' (some p) := by
  obtain ⟨w1, hw1⟩ : ∃ w1, w.alloc (.cells #[.bool true, .bool true, .bool true, .int .i64 9, .slice none 0 0] 33) = w1 := ⟨_, rfl⟩
  obtain ⟨g1, hg1⟩ : ∃ g1, w.heap.size = g1 := ⟨_, rfl⟩
  have hd := Blk.new w 33 #[.bool true, .bool true, .bool true, .int .i64 9, .slice none 0 0]
  have hb1 := below_new w (.cells #[.bool true, .bool true, .bool true, .int .i64 9, .slice none 0 0] 33)
  rw [hw1, hg1] at hd
  rw [hw1] at hb1
  obtain ⟨w2, hw2⟩ : ∃ w2, w1.alloc (.cells #[.bool true, .bool true, .bool true, .int .i64 9] 62) = w2 := ⟨_, rfl⟩
  obtain ⟨g2, hg2⟩ : ∃ g2, w1.heap.size = g2 := ⟨_, rfl⟩
  have hm := Blk.new w1 62 #[.bool true, .bool true, .bool true, .int .i64 9]
  have hb2 := below_new w1 (.cells #[.bool true, .bool true, .bool true, .int .i64 9] 62)
  rw [hw2, hg2] at hm
  rw [hw2] at hb2
  have hp1 := hp.below hb1 hp.lt
  have hp2 := hp1.below hb2 hp1.lt
  have hd2 := hd.below hb2 hd.lt
  have Hb2 := Lib.hid (gr_trans (gr_below (row := some p) hb1) (gr_below hb2))
  have HM := Lib.hid hm
  have HB := Lib.hid (begin_w p w2 hp2)
  have Hpg2 := Lib.hid (show p < g2 from by have := hp1.lt; omega)
  obtain ⟨x0, x1, x2, x3, x4, x5, x6, x7, x8, x9, xa, xb, xc, xd, xe, xf⟩ := blk16 hp2
  obtain ⟨d0, d1, d2, d3, d4⟩ := blk5 hd
  obtain ⟨e0, e1, e2, e3, e4⟩ := blk5 hd2
  clear hp hb1 hd hm hb2 hp1 hp2 hd2
  go_enter Try.func11, Try.ntmps11
  go_wp2_with fail
  with_reducible refine Calls.mono HB.out ?_
  rintro r w3 ⟨rfl, ⟨s, hp3⟩, hb3⟩
  have hm3 := HM.out.grown hb3 (fun e => by injection e with e; have := Hpg2.out; omega)
  have HP3 := Lib.hid hp3
  have Hb3 := Lib.hid (gr_trans Hb2.out hb3)
  have hfz := fun i => hp3.frozen i
  obtain ⟨m0, m1, m2, m3⟩ : _ ∧ _ ∧ _ ∧ _ := ⟨hm3.cell 0, hm3.cell 1, hm3.cell 2, hm3.cell 3⟩
  simp only [List.getElem?_toArray, List.getElem?_cons_zero, List.getElem?_cons_succ] at m0 m1 m2 m3
  clear x0 x1 x2 x3 x4 x5 x6 x7 x8 x9 xa xb xc xd xe xf d0 d1 d2 d3 d4 e0 e1 e2 e3 e4
  obtain ⟨x0, x1, x2, x3, x4, x5, x6, x7, x8, x9, xa, xb, xc, xd, xe, xf⟩ := blk16 hp3
  clear hp3 hb3 hm3
  go_wp2
  go_ret
  have hset := (((HP3.out.set_ 6 (.bool true)).set_ 7 (.bool true)).set_ 8 (.bool true)).set_ 9 (.int .i64 9)
  exact ⟨rfl, ⟨s, by simpa [exA] using hset⟩, gr_set (gr_set (gr_set (gr_set Hb3.out 6 _) 7 _) 8 _) 9 _⟩

theorem agreed_any (p : Nat) (b : Bool) (w : World) (h : w.cell? ⟨p, 3, none⟩ = some (.bool b)) : Calls Try.prog 21 #[.pointer (some ⟨p, 0, none⟩)] w fun r w' => r = .returned (.bool b) ∧ w' = w := by
  go_enter Try.func21, Try.ntmps21
  go_wp2
  go_ret
  exact ⟨rfl, rfl⟩
theorem leads_any (p : Nat) (b : Bool) (w : World) (h : w.cell? ⟨p, 4, none⟩ = some (.bool b)) : Calls Try.prog 18 #[.pointer (some ⟨p, 0, none⟩)] w fun r w' => r = .returned (.bool b) ∧ w' = w := by
  go_enter Try.func18, Try.ntmps18
  go_wp2
  go_ret
  exact ⟨rfl, rfl⟩
theorem seq_any (p : Nat) (n : Int) (w : World) (h : w.cell? ⟨p, 2, none⟩ = some (.int .i64 n)) : Calls Try.prog 22 #[.pointer (some ⟨p, 0, none⟩)] w fun r w' => r = .returned (.int .i64 n) ∧ w' = w := by
  go_enter Try.func22, Try.ntmps22
  go_wp2
  go_ret
  exact ⟨rfl, rfl⟩
set_option maxHeartbeats 4000000 in
set_option maxRecDepth 100000 in
theorem wakes14 (w : World) : Calls Try.prog 6 #[] w fun r w' => r = .returned (.bool true) ∧ Below w.heap.size w w' := by
  have HB0 := Lib.hid (fun o => below_new w o)
  go_enter Try.func6, Try.ntmps6
  go_wp2_with fail
  with_reducible refine Calls.mono (exNew _ _ _ _) ?_
  rintro r w1 ⟨rfl, hw1⟩
  have hp1 : Blk w1 w.heap.size 65 (exA 1 2 5 false false false false false false 0 true true true 5 (.slice none 0 0) (.pointer none)) := by rw [hw1]; exact Blk.new _ _ _
  have hb1 : Below w.heap.size w w1 := by rw [hw1]; exact HB0.out _
  have HH := Lib.hid (hear_w _ w1 hp1)
  have Hb1 := Lib.hid hb1
  clear hp1 hb1 hw1
  go_wp2_with fail
  with_reducible refine Calls.mono HH.out ?_
  rintro r w2 ⟨rfl, ⟨s, hp2⟩, hb2⟩
  obtain ⟨x0, x1, x2, x3, x4, x5, x6, x7, x8, x9, xa, xb, xc, xd, xe, xf⟩ := blk16 hp2
  have HA := Lib.hid (agreed_any _ true w2 x3)
  have HL := Lib.hid (leads_any _ false w2 x4)
  have HS := Lib.hid (seq_any _ 9 w2 x2)
  have Hb2 := Lib.hid (show Below w.heap.size w w2 from Hb1.out.grown hb2 Hb1.out.size (fun m e => by injection e with e; omega))
  clear hp2 hb2 x0 x1 x2 x3 x4 x5 x6 x7 x8 x9 xa xb xc xd xe xf
  go_wp2_with (first
    | (go_at_call 21; (with_reducible refine Calls.mono HA.out ?_); rintro r wx ⟨rfl, rfl⟩)
    | (go_at_call 18; (with_reducible refine Calls.mono HL.out ?_); rintro r wx ⟨rfl, rfl⟩)
    | (go_at_call 22; (with_reducible refine Calls.mono HS.out ?_); rintro r wx ⟨rfl, rfl⟩))
  go_ret
  exact ⟨rfl, Hb2.out⟩

theorem agreed_nil (w : World) : Calls Try.prog 21 #[.pointer none] w fun r w' => r = .returned (.bool false) ∧ w' = w := by
  go_enter Try.func21, Try.ntmps21
  go_wp2
  go_ret
  exact ⟨rfl, rfl⟩
theorem leads_nil (w : World) : Calls Try.prog 18 #[.pointer none] w fun r w' => r = .returned (.bool false) ∧ w' = w := by
  go_enter Try.func18, Try.ntmps18
  go_wp2
  go_ret
  exact ⟨rfl, rfl⟩
theorem done_nil (w : World) : Calls Try.prog 17 #[.pointer none] w fun r w' => r = .returned (.bool false) ∧ w' = w := by
  go_enter Try.func17, Try.ntmps17
  go_wp2
  go_ret
  exact ⟨rfl, rfl⟩
theorem seq_nil (w : World) : Calls Try.prog 22 #[.pointer none] w fun r w' => r = .returned (.int .i64 0) ∧ w' = w := by
  go_enter Try.func22, Try.ntmps22
  go_wp2
  go_ret
  exact ⟨rfl, rfl⟩
set_option maxHeartbeats 1000000 in
theorem hear_nil (b1 b2 b3 : Bool) (n : Int) (A : Option Addr) (m c : Nat) (w : World) : Calls Try.prog 11 #[.pointer none, .agg #[.bool b1, .bool b2, .bool b3, .int .i64 n, .slice A m c], .slice none 0 0] w fun r w' => r = .returned (.int .i64 0) ∧ Below w.heap.size w w' := by
  have HB0 := Lib.hid (fun o => below_new w o)
  go_enter Try.func11, Try.ntmps11
  go_wp2
  go_ret
  exact ⟨rfl, HB0.out _⟩
set_option maxHeartbeats 1000000 in
theorem say_nil (w : World) : Calls Try.prog 19 #[.pointer none] w fun r w' => r = .returned (.tuple #[.agg #[.bool false, .bool false, .bool false, .int .i64 0, .slice none 0 0], .bool false]) ∧ Below w.heap.size w w' := by
  go_enter Try.func19, Try.ntmps19
  go_wp2
  refine bodyPost_ret (v := .tuple #[.agg #[.bool false, .bool false, .bool false, .int .i64 0, .slice none 0 0], .bool false]) (by simp [results, Try.results19, go_sem]) rfl ⟨rfl, ?_⟩
  exact below_new _ _

end Go.Proofs.Ytfpjkeddcagfcaa

/-
  Layer 14: one side hears another one of its own number.
-/
namespace Go.Proofs.Ytfpjkeddcagfcaa
open Go.RowKit Go.Sort

/-- an exchange with its own number, that nobody told anything -/
abbrev exS (n0 n : Int) : Array Value := #[.int .i64 n0, .int .i64 n0, .int .i64 n, .bool false, .bool false, .bool false, .bool false, .bool false, .bool false, .int .i64 0, .bool true, .bool true, .bool true, .int .i64 n, .slice none 0 0, .pointer none]
theorem clone14_nil (w : World) : Calls Try.prog 33 #[.slice none 0 0] w fun r w' => r = .returned (.slice none 0 0) ∧ w' = w := by
  have hnil := fun (w : World) => Lib.run_eql_slice_nil (P := Try.prog) w 31 56 none 0 0 0 0 Try.underlying31
  go_enter Try.func33, Try.ntmps33
  go_wp2
  go_ret
  exact ⟨rfl, rfl⟩
theorem Blk.set5 {w : World} {g : Nat} {t : TypeId} {a b c d e : Value} (h : Blk w g t #[a, b, c, d, e]) (a' b' c' d' e' : Value) : Blk (((((w.setCell ⟨g, 0, none⟩ a').setCell ⟨g, 1, none⟩ b').setCell ⟨g, 2, none⟩ c').setCell ⟨g, 3, none⟩ d').setCell ⟨g, 4, none⟩ e') g t #[a', b', c', d', e'] := by
  have := ((((h.set_ 0 a').set_ 1 b').set_ 2 c').set_ 3 d').set_ 4 e'
  simpa using this
theorem below_set5 {B g : Nat} {w w' : World} (h : Below B w w') (hg : B ≤ g) (a' b' c' d' e' : Value) : Below B w (((((w'.setCell ⟨g, 0, none⟩ a').setCell ⟨g, 1, none⟩ b').setCell ⟨g, 2, none⟩ c').setCell ⟨g, 3, none⟩ d').setCell ⟨g, 4, none⟩ e') :=
  ((((h.setCell hg _).setCell hg _).setCell hg _).setCell hg _).setCell hg _
set_option maxHeartbeats 4000000 in
set_option maxRecDepth 100000 in
theorem say_self (p : Nat) (n0 n : Int) (w : World) (hp : Blk w p 65 (exS n0 n)) :
    Calls Try.prog 19 #[.pointer (some ⟨p, 0, none⟩)] w fun r w' => r = .returned (.tuple #[.agg #[.bool true, .bool true, .bool true, .int .i64 n, .slice none 0 0], .bool true]) ∧ Below w.heap.size w w' := by
  obtain ⟨w1, hw1⟩ : ∃ w1, w.alloc (.cells #[.bool false, .bool false, .bool false, .int .i64 0, .slice none 0 0] 33) = w1 := ⟨_, rfl⟩
  obtain ⟨g1, hg1⟩ : ∃ g1, w.heap.size = g1 := ⟨_, rfl⟩
  have hd1 := Blk.new w 33 #[.bool false, .bool false, .bool false, .int .i64 0, .slice none 0 0]
  have hb1 := below_new w (.cells #[.bool false, .bool false, .bool false, .int .i64 0, .slice none 0 0] 33)
  rw [hw1, hg1] at hd1
  rw [hw1] at hb1
  have hp1 := hp.below hb1 hp.lt
  obtain ⟨w2, hw2⟩ : ∃ w2, w1.alloc (.cells #[.bool true, .bool true, .bool true, .int .i64 n, .slice none 0 0] 33) = w2 := ⟨_, rfl⟩
  obtain ⟨g2, hg2⟩ : ∃ g2, w1.heap.size = g2 := ⟨_, rfl⟩
  have hd2 := Blk.new w1 33 #[.bool true, .bool true, .bool true, .int .i64 n, .slice none 0 0]
  have hb2 := below_new w1 (.cells #[.bool true, .bool true, .bool true, .int .i64 n, .slice none 0 0] 33)
  rw [hw2, hg2] at hd2
  rw [hw2] at hb2
  have hd12 := hd1.below hb2 hd1.lt
  have HD1 := Lib.hid hd12
  have HD2 := Lib.hid hd2
  have Hb2 := Lib.hid (below_trans hb1 hb1.size hb2)
  have Hg1 := Lib.hid hg1
  have Hg12 := Lib.hid (show g1 < g2 from by have := hd1.lt; omega)
  obtain ⟨x0, x1, x2, x3, x4, x5, x6, x7, x8, x9, xa, xb, xc, xd, xe, xf⟩ := blk16 hp1
  obtain ⟨d0, d1, d2, d3, d4⟩ := blk5 hd2
  have hfz2 := fun i => hd2.frozen i
  obtain ⟨c0, c1, c2, c3, c4⟩ := blk5 hd12
  have hfz1 := fun i => hd12.frozen i
  clear hp hd1 hb1 hp1 hd2 hb2 hd12
  go_enter Try.func19, Try.ntmps19
  go_wp2_with fail
  with_reducible refine Calls.mono (clone14_nil _) ?_
  rintro r w3 ⟨rfl, hw3⟩
  have hd23 : Blk w3 g2 33 #[.bool true, .bool true, .bool true, .int .i64 n, .slice none 0 0] := by rw [hw3]; simpa using HD2.out.set_ 4 (.slice none 0 0)
  have hd13 : Blk w3 g1 33 #[.bool false, .bool false, .bool false, .int .i64 0, .slice none 0 0] := by rw [hw3]; exact HD1.out.grown (grown_set w2 g2 4 _) (fun e => by injection e with e; have := Hg12.out; omega)
  have HD23 := Lib.hid hd23
  have HD13 := Lib.hid hd13
  have Hb3 := Lib.hid (show Below w.heap.size w w3 by rw [hw3]; exact Hb2.out.setCell (p := ⟨g2, 4, none⟩) (by have := Hg12.out; have := Hg1.out; show w.heap.size ≤ g2; omega) _)
  clear x0 x1 x2 x3 x4 x5 x6 x7 x8 x9 xa xb xc xd xe xf d0 d1 d2 d3 d4 c0 c1 c2 c3 c4 hfz1 hfz2 hw3 hw1 hw2 hg1 hg2
  obtain ⟨d0, d1, d2, d3, d4⟩ := blk5 hd23
  have f4 := hd23.frozen 4
  clear hd23 hd13
  go_upto_region 5 with fail
  obtain ⟨w5, hw5⟩ : ∃ w5, w3.setCell ⟨g2, 4, none⟩ (.slice none 0 0) = w5 := ⟨_, rfl⟩
  rw [hw5]
  have hd25 : Blk w5 g2 33 #[.bool true, .bool true, .bool true, .int .i64 n, .slice none 0 0] := by rw [← hw5]; simpa using HD23.out.set_ 4 (.slice none 0 0)
  have hd15 : Blk w5 g1 33 #[.bool false, .bool false, .bool false, .int .i64 0, .slice none 0 0] := by rw [← hw5]; exact HD13.out.grown (grown_set w3 g2 4 _) (fun e => by injection e with e; have := Hg12.out; omega)
  have HD15 := Lib.hid hd15
  have Hb5 := Lib.hid (show Below w.heap.size w w5 by rw [← hw5]; exact Hb3.out.setCell (p := ⟨g2, 4, none⟩) (by have := Hg12.out; have := Hg1.out; show w.heap.size ≤ g2; omega) _)
  clear d0 d1 d2 d3 d4 f4 hw5
  obtain ⟨d0, d1, d2, d3, d4⟩ := blk5 hd25
  obtain ⟨c0, c1, c2, c3, c4⟩ := blk5 hd15
  have hfz := fun i => hd15.frozen i
  clear hd25 hd15
  go_wp2
  refine bodyPost_named (v := .tuple #[.agg #[.bool true, .bool true, .bool true, .int .i64 n, .slice none 0 0], .bool true]) (fun W => Blk W g1 33 #[.bool true, .bool true, .bool true, .int .i64 n, .slice none 0 0]) (Blk.set5 HD15.out _ _ _ _ _) (fun W hB => by
    obtain ⟨e0, e1, e2, e3, e4⟩ := blk5 hB
    simp [results, Try.results19, go_sem, e0, e1, e2, e3, e4]) rfl ?_
  exact ⟨rfl, below_set5 Hb5.out (by have := Hg1.out; omega) _ _ _ _ _⟩

set_option maxHeartbeats 4000000 in
set_option maxRecDepth 100000 in
theorem begin_self (p : Nat) (n0 n n' : Int) (A : Option Addr) (m c : Nat) (w : World) (hp : Blk w p 65 (exS n0 n)) :
    Calls Try.prog 24 #[.pointer (some ⟨p, 0, none⟩), .agg #[.bool true, .bool true, .bool true, .int .i64 n', .slice none 0 0], .slice A m c] w fun r w' => r = .returned (.int .i64 0) ∧ Below w.heap.size w w' := by
  obtain ⟨w1, hw1⟩ : ∃ w1, w.alloc (.cells #[.bool true, .bool true, .bool true, .int .i64 n', .slice none 0 0] 33) = w1 := ⟨_, rfl⟩
  obtain ⟨g1, hg1⟩ : ∃ g1, w.heap.size = g1 := ⟨_, rfl⟩
  have hd := Blk.new w 33 #[.bool true, .bool true, .bool true, .int .i64 n', .slice none 0 0]
  have hb1 := below_new w (.cells #[.bool true, .bool true, .bool true, .int .i64 n', .slice none 0 0] 33)
  rw [hw1, hg1] at hd
  rw [hw1] at hb1
  have Hp1 := Lib.hid (hp.below hb1 hp.lt)
  have Hd := Lib.hid hd
  have Hb1 := Lib.hid hb1
  obtain ⟨x0, x1, x2, x3, x4, x5, x6, x7, x8, x9, xa, xb, xc, xd, xe, xf⟩ := blk16 Hp1.out
  obtain ⟨d0, d1, d2, d3, d4⟩ := blk5 hd
  clear hp hb1 hd
  go_enter Try.func24, Try.ntmps24
  go_wp2
  go_quiet (fail)
  have hb2 := below_drewN (Below.refl w1.heap.size w1) nq
  obtain ⟨w2, hw2⟩ : ∃ w2, w1.drewN nq = w2 := ⟨_, rfl⟩
  rw [hw2] at hb2 ⊢
  have Hp2 := Lib.hid (Hp1.out.below hb2 Hp1.out.lt)
  have Hd2 := Lib.hid (Hd.out.below hb2 Hd.out.lt)
  have Hb2 := Lib.hid (below_trans Hb1.out Hb1.out.size hb2)
  clear x0 x1 x2 x3 x4 x5 x6 x7 x8 x9 xa xb xc xd xe xf d0 d1 d2 d3 d4 hb2 hw2 hw1 hg1
  obtain ⟨x0, x1, x2, x3, x4, x5, x6, x7, x8, x9, xa, xb, xc, xd, xe, xf⟩ := blk16 Hp2.out
  obtain ⟨d0, d1, d2, d3, d4⟩ := blk5 Hd2.out
  go_wp2
  go_quiet (fail)
  go_wp2
  go_ret
  exact ⟨rfl, below_drewN Hb2.out _⟩
set_option maxHeartbeats 4000000 in
set_option maxRecDepth 100000 in
theorem hear_self (p : Nat) (n0 n n' : Int) (hn : 0 ≤ n' ∧ n' ≤ 4294967295) (A : Option Addr) (m c : Nat) (w : World) (hp : Blk w p 65 (exS n0 n)) :
    Calls Try.prog 11 #[.pointer (some ⟨p, 0, none⟩), .agg #[.bool true, .bool true, .bool true, .int .i64 n', .slice none 0 0], .slice A m c] w fun r w' => r = .returned (.int .i64 0) ∧ Below w.heap.size w w' := by
  obtain ⟨w1, hw1⟩ : ∃ w1, w.alloc (.cells #[.bool true, .bool true, .bool true, .int .i64 n', .slice none 0 0] 33) = w1 := ⟨_, rfl⟩
  obtain ⟨g1, hg1⟩ : ∃ g1, w.heap.size = g1 := ⟨_, rfl⟩
  have hd := Blk.new w 33 #[.bool true, .bool true, .bool true, .int .i64 n', .slice none 0 0]
  have hb1 := below_new w (.cells #[.bool true, .bool true, .bool true, .int .i64 n', .slice none 0 0] 33)
  rw [hw1, hg1] at hd
  rw [hw1] at hb1
  obtain ⟨w2, hw2⟩ : ∃ w2, w1.alloc (.cells #[.bool true, .bool true, .bool true, .int .i64 n'] 62) = w2 := ⟨_, rfl⟩
  have hb2 := below_new w1 (.cells #[.bool true, .bool true, .bool true, .int .i64 n'] 62)
  rw [hw2] at hb2
  have hp1 := hp.below hb1 hp.lt
  have hp2 := hp1.below hb2 hp1.lt
  have hd2 := hd.below hb2 hd.lt
  have Hb2 := Lib.hid (below_trans hb1 hb1.size hb2)
  have HB := Lib.hid (begin_self p n0 n n' A m c w2 hp2)
  obtain ⟨h0, h1⟩ := hn
  obtain ⟨x0, x1, x2, x3, x4, x5, x6, x7, x8, x9, xa, xb, xc, xd, xe, xf⟩ := blk16 hp2
  obtain ⟨d0, d1, d2, d3, d4⟩ := blk5 hd
  obtain ⟨e0, e1, e2, e3, e4⟩ := blk5 hd2
  clear hp hb1 hd hb2 hp1 hp2 hd2
  go_enter Try.func11, Try.ntmps11
  go_wp2_with fail
  with_reducible refine Calls.mono HB.out ?_
  rintro r w3 ⟨rfl, hb3⟩
  have Hb3 := Lib.hid (below_trans Hb2.out Hb2.out.size hb3)
  clear hb3 d0 d1 d2 d3 d4 e0 e1 e2 e3 e4 x0 x1 x2 x3 x4 x5 x6 x7 x8 x9 xa xb xc xd xe xf
  go_wp2
  go_ret
  exact ⟨rfl, Hb3.out⟩

end Go.Proofs.Ytfpjkeddcagfcaa

/-
  Layer 14: what an exchange says, to whoever asks.
-/
namespace Go.Proofs.Ytfpjkeddcagfcaa
open Go.RowKit Go.Sort

theorem own_new14 {α : Type} {e : TypeId} {C : Nat} {cells : α → List Value} (w : World) : OwnR e C cells (w.alloc (.cells #[] e)) w.heap.size (.slice (some ⟨w.heap.size, 0, none⟩) 0 0) ([] : List α) := by
  exact ⟨by simp, .inr ⟨w.heap.size, 0, #[], rfl, Nat.le_refl _, Blk.new w e #[], by simp, by unfold maxLen; omega, by simp, by simp⟩⟩
set_option maxHeartbeats 2000000 in
set_option maxRecDepth 100000 in
theorem cloneHd (A : Option Addr) (c : Nat) (M : List Hd) (w : World) (B : Nat) (h : RowsAt 7 Hd.cells w B A M) (hB : B ≤ w.heap.size) (hl : M.length ≤ 2 ^ 20) (n : Nat) (hn : n = M.length) :
    Calls Try.prog 33 #[.slice A n c] w fun r w' => ∃ v, r = .returned v ∧ OwnR 56 7 Hd.cells w' w.heap.size v M ∧ Below w.heap.size w w' := by
  subst hn
  cases A with
  | none =>
    have hM : M = [] := by
      rcases Nat.eq_zero_or_pos M.length with h0 | h0
      · exact List.eq_nil_of_length_eq_zero h0
      · obtain ⟨b, o, e, -⟩ := h h0
        cases e
    subst hM
    clear h
    have hnil := fun (w : World) => Lib.run_eql_slice_nil (P := Try.prog) w 31 56 none 0 c 0 0 Try.underlying31
    simp only [List.length_nil]
    go_enter Try.func33, Try.ntmps33
    go_wp2
    go_ret
    exact ⟨_, rfl, OwnR.nil _ _, Below.refl _ _⟩
  | some a =>
    have H := Lib.hid (h.more hB)
    have HE : Hid (OwnR 56 7 Hd.cells (w.alloc (.cells #[] 56)) w.heap.size (.slice (some ⟨w.heap.size, 0, none⟩) 0 0) ([] : List Hd)) := Lib.hid (own_new14 _)
    have hb1 := (Below.refl w.heap.size w).alloc (Nat.le_refl _) (.cells #[] 56)
    have Hb1 := Lib.hid hb1
    clear h hB hb1
    have hnil := fun (w : World) => Lib.run_eql_slice_nil (P := Try.prog) w 31 56 (some a) M.length c 0 0 Try.underlying31
    go_enter Try.func33, Try.ntmps33
    go_wp2_with (at_builtin; (refine app_rows (e := 56) Hd.cells (fun _ => rfl) (by decide) (bytes := 56) (by decide) infoHd13 rfl Try.underlying31 onesHd13 (by rfl) _ _ (by rfl) w.heap.size _ [] (by rfl) HE.out (some a) c M.length M rfl (by rfl) ((H.out.below Hb1.out).more (by simp)) (by simp; omega) (by simp) ?_); intro v5 w5 hown5 hg5 hor5; have Hown5 := Lib.hid hown5; have Hb5 := Lib.hid (Hb1.out.grown hg5 (by simp) (fun j hj => (HE.out.block j hj).1)); clear hown5 hg5 hor5)
    go_ret
    exact ⟨_, rfl, by simpa using Hown5.out, Hb5.out⟩
theorem done_any (p : Nat) (b : Bool) (w : World) (h : w.cell? ⟨p, 5, none⟩ = some (.bool b)) : Calls Try.prog 17 #[.pointer (some ⟨p, 0, none⟩)] w fun r w' => r = .returned (.bool b) ∧ w' = w := by
  go_enter Try.func17, Try.ntmps17
  go_wp2
  go_ret
  exact ⟨rfl, rfl⟩
set_option maxHeartbeats 4000000 in
set_option maxRecDepth 100000 in
theorem told_any {X : Nat → Prop} (p s0 : Nat) (x : ExM) (w : World) (h : ExAt X w p s0 x) (hl : x.said.hs.length ≤ 2 ^ 20) :
    Calls Try.prog 19 #[.pointer (some ⟨p, 0, none⟩)] w fun r w' => ∃ u, r = .returned (.tuple #[.agg #[.bool x.said.i, .bool x.said.m, .bool x.said.s, .int .i64 x.said.q, u], .bool true]) ∧ OwnR 56 7 Hd.cells w' w.heap.size u x.said.hs ∧ Below w.heap.size w w' := by
  obtain ⟨hv, hp, ho⟩ := h.ptr
  obtain ⟨a, b, n, ag, ld, dn, l1, l2, l3, l4, ⟨i, m, s, q, hs⟩, H, k⟩ := x
  simp only [ExM.ar] at hp ho hl ⊢
  obtain ⟨pv, hpv⟩ : ∃ pv, (if ag = true then Value.pointer (some ⟨s0, 0, none⟩) else Value.pointer none) = pv := ⟨_, rfl⟩
  rw [hpv] at hp
  clear hpv h
  obtain ⟨A, c, rfl⟩ := ho.shape
  have hrows := (OwnR.rows (C := 7) (cells := Hd.cells) (fun _ => rfl) ho).2
  obtain ⟨nh, hnh⟩ : ∃ z, hs.length = z := ⟨_, rfl⟩
  rw [hnh] at hp
  obtain ⟨w1, hw1⟩ : ∃ w1, w.alloc (.cells #[.bool false, .bool false, .bool false, .int .i64 0, .slice none 0 0] 33) = w1 := ⟨_, rfl⟩
  obtain ⟨g1, hg1⟩ : ∃ g1, w.heap.size = g1 := ⟨_, rfl⟩
  have hd1 := Blk.new w 33 #[.bool false, .bool false, .bool false, .int .i64 0, .slice none 0 0]
  have hb1 := below_new w (.cells #[.bool false, .bool false, .bool false, .int .i64 0, .slice none 0 0] 33)
  rw [hw1, hg1] at hd1
  rw [hw1] at hb1
  have hp1 := hp.below hb1 hp.lt
  obtain ⟨w2, hw2⟩ : ∃ w2, w1.alloc (.cells #[.bool i, .bool m, .bool s, .int .i64 q, .slice A nh c] 33) = w2 := ⟨_, rfl⟩
  obtain ⟨g2, hg2⟩ : ∃ g2, w1.heap.size = g2 := ⟨_, rfl⟩
  have hd2 := Blk.new w1 33 #[.bool i, .bool m, .bool s, .int .i64 q, .slice A nh c]
  have hb2 := below_new w1 (.cells #[.bool i, .bool m, .bool s, .int .i64 q, .slice A nh c] 33)
  rw [hw2, hg2] at hd2
  rw [hw2] at hb2
  have hd12 := hd1.below hb2 hd1.lt
  have hb12 := below_trans hb1 hb1.size hb2
  have HD1 := Lib.hid hd12
  have HD2 := Lib.hid hd2
  have Hb2 := Lib.hid hb12
  have Hg1 := Lib.hid hg1
  have Hg12 := Lib.hid (show g1 < g2 from by have := hd1.lt; omega)
  have HC := Lib.hid (fun W (hW : Below w.heap.size w W) => cloneHd A c hs W w.heap.size (hrows.below hW) hW.size hl nh hnh.symm)
  obtain ⟨x0, x1, x2, x3, x4, x5, x6, x7, x8, x9, xa, xb, xc, xd, xe, xf⟩ := blk16 hp1
  obtain ⟨d0, d1, d2, d3, d4⟩ := blk5 hd2
  have hfz2 := fun i => hd2.frozen i
  obtain ⟨c0, c1, c2, c3, c4⟩ := blk5 hd12
  have hfz1 := fun i => hd12.frozen i
  clear hp hd1 hb1 hp1 hd2 hb2 hd12 hb12 hrows ho hl
  go_enter Try.func19, Try.ntmps19
  go_wp2_with fail
  with_reducible refine Calls.mono (HC.out _ Hb2.out) ?_
  rintro r w3 ⟨v3, rfl, ho3, hb3⟩
  obtain ⟨A3, k3, hv3⟩ := ho3.shape
  rw [hnh] at hv3
  subst hv3
  have hd23 := HD2.out.below hb3 HD2.out.lt
  have HD23 := Lib.hid hd23
  have HD13 := Lib.hid (HD1.out.below hb3 HD1.out.lt)
  have Hb3 := Lib.hid (below_trans Hb2.out Hb2.out.size hb3)
  have Hg2 := Lib.hid (show g2 < w2.heap.size from HD2.out.lt)
  have HO3 := Lib.hid ho3
  have Hw2 := Lib.hid Hb2.out.size
  clear x0 x1 x2 x3 x4 x5 x6 x7 x8 x9 xa xb xc xd xe xf d0 d1 d2 d3 d4 c0 c1 c2 c3 c4 hfz1 hfz2 hw1 hw2 hg1 hg2 hb3 ho3
  obtain ⟨d0, d1, d2, d3, d4⟩ := blk5 hd23
  have f4 := hd23.frozen 4
  clear hd23
  go_upto_region 5 with fail
  obtain ⟨w5, hw5⟩ : ∃ w5, w3.setCell ⟨g2, 4, none⟩ (.slice A3 nh k3) = w5 := ⟨_, rfl⟩
  rw [hw5]
  have hd25 : Blk w5 g2 33 #[.bool i, .bool m, .bool s, .int .i64 q, .slice A3 nh k3] := by rw [← hw5]; simpa using HD23.out.set_ 4 (.slice A3 nh k3)
  have hd15 : Blk w5 g1 33 #[.bool false, .bool false, .bool false, .int .i64 0, .slice none 0 0] := by rw [← hw5]; exact HD13.out.grown (grown_set w3 g2 4 _) (fun e => by injection e with e; have := Hg12.out; omega)
  have HD15 := Lib.hid hd15
  have HO5 := Lib.hid (show OwnR 56 7 Hd.cells w5 w2.heap.size (.slice A3 nh k3) hs by rw [← hw5]; exact HO3.out.set_ Hg2.out _)
  have Hb5 := Lib.hid (show Below w.heap.size w w5 by rw [← hw5]; exact Hb3.out.setCell (p := ⟨g2, 4, none⟩) (by have := Hg12.out; have := Hg1.out; show w.heap.size ≤ g2; omega) _)
  have Hg1w := Lib.hid (show g1 < w2.heap.size from HD1.out.lt)
  clear d0 d1 d2 d3 d4 f4 hw5
  obtain ⟨d0, d1, d2, d3, d4⟩ := blk5 hd25
  obtain ⟨c0, c1, c2, c3, c4⟩ := blk5 hd15
  have hfz := fun i => hd15.frozen i
  clear hd25 hd15
  go_wp2
  refine bodyPost_named (v := .tuple #[.agg #[.bool i, .bool m, .bool s, .int .i64 q, .slice A3 nh k3], .bool true]) (fun W => Blk W g1 33 #[.bool i, .bool m, .bool s, .int .i64 q, .slice A3 nh k3]) (Blk.set5 HD15.out _ _ _ _ _) (fun W hB => by
    obtain ⟨e0, e1, e2, e3, e4⟩ := blk5 hB
    simp [results, Try.results19, go_sem, e0, e1, e2, e3, e4]) rfl ?_
  refine ⟨_, rfl, ?_, below_set5 Hb5.out (by have := Hg1.out; omega) _ _ _ _ _⟩
  exact (((((HO5.out.set_ (p := ⟨g1, 0, none⟩) Hg1w.out _).set_ (p := ⟨g1, 1, none⟩) Hg1w.out _).set_ (p := ⟨g1, 2, none⟩) Hg1w.out _).set_ (p := ⟨g1, 3, none⟩) Hg1w.out _).set_ (p := ⟨g1, 4, none⟩) Hg1w.out _).lower Hw2.out

end Go.Proofs.Ytfpjkeddcagfcaa

/-
  Layer 14: two sides, each with its exchange, and what it took.
-/
namespace Go.Proofs.Ytfpjkeddcagfcaa
open Go.RowKit Go.Sort

/-- the blocks of two rows -/
def Xs (ta tb : Value) : Nat → Prop := fun g => ta.ownBlock = some g ∨ tb.ownBlock = some g
abbrev OwnT (w : World) (B : Nat) (v : Value) (L : List Hd) : Prop := OwnR 56 7 Hd.cells w B v L
/-- two sides -/
structure Sides (w0 W : World) (sa sb pa pb qa qb : Nat) (VA VB : Value) (x y : ExM) (ta tb : Value) (tx ty : List Hd) : Prop where
  xa : ExAt (Xs ta tb) W pa qa x
  xb : ExAt (Xs ta tb) W pb qb y
  ba : Blk W sa 48 #[.pointer (some ⟨pa, 0, none⟩), VA, ta]
  bb : Blk W sb 48 #[.pointer (some ⟨pb, 0, none⟩), VB, tb]
  oa : OwnT W w0.heap.size ta tx
  ob : OwnT W w0.heap.size tb ty
  ap : ta.ownBlock = none ∨ ta.ownBlock ≠ tb.ownBlock
  ne : pa ≠ pb ∧ sa ≠ sb
  qne : qa ≠ qb
  lt : qa < W.heap.size ∧ qb < W.heap.size
  bds : w0.heap.size ≤ sa ∧ w0.heap.size ≤ sb ∧ w0.heap.size ≤ pa ∧ w0.heap.size ≤ pb ∧ w0.heap.size ≤ qa ∧ w0.heap.size ≤ qb
  said : x.said.hs.length ≤ 60 ∧ y.said.hs.length ≤ 60
  took : tx.length ≤ 2 ^ 20 ∧ ty.length ≤ 2 ^ 20
  below : Below w0.heap.size w0 W
section
variable {w0 W W' : World} {sa sb pa pb qa qb : Nat} {VA VB : Value} {x y : ExM} {ta tb : Value} {tx ty : List Hd}
theorem ExAt.reX {X Y : Nat → Prop} {w : World} {p s : Nat} {x : ExM} (h : ExAt X w p s x) (hY : ∀ g, Y g → X g ∨ w.heap.size ≤ g) : ExAt Y w p s x := by
  obtain ⟨hv, h1, h2, h3⟩ := h.ptrX
  exact .of ⟨hv, h1, h2, fun g e hg => by
    rcases hY g hg with h4 | h4
    · exact h3 g e h4
    · have := (h2.block g e).2; omega⟩ (fun e => by
    obtain ⟨v, h5, h6⟩ := h.sumX e
    exact ⟨v, h5, fun g e hg => by
      rcases hY g hg with h4 | h4
      · exact h6 g e h4
      · have := (h5.own.block g e).2; omega⟩) h.le h.rng
theorem ExAt.anyS {X : Nat → Prop} {w : World} {p s s' : Nat} {x : ExM} (h : ExAt X w p s x) (hag : x.ag = false) : ExAt X w p s' x := by
  obtain ⟨hv, h1, h2, h3⟩ := h.ptrX
  refine .of ⟨hv, ?_, h2, h3⟩ (fun e => by rw [hag] at e; cases e) h.le h.rng
  rw [hag] at h1 ⊢
  exact h1
theorem Sides.swap (h : Sides w0 W sa sb pa pb qa qb VA VB x y ta tb tx ty) : Sides w0 W sb sa pb pa qb qa VB VA y x tb ta ty tx :=
  ⟨h.xb.reX fun g e => .inl e.symm, h.xa.reX fun g e => .inl e.symm, h.bb, h.ba, h.ob, h.oa, (by
    rcases h.ap with e | e
    · cases ht : tb.ownBlock with
      | none => exact .inl rfl
      | some m => exact .inr (by rw [e]; simp)
    · exact .inr (fun e2 => e e2.symm)), ⟨fun e => h.ne.1 e.symm, fun e => h.ne.2 e.symm⟩, fun e => h.qne e.symm, ⟨h.lt.2, h.lt.1⟩, ⟨h.bds.2.1, h.bds.1, h.bds.2.2.2.1, h.bds.2.2.1, h.bds.2.2.2.2.2, h.bds.2.2.2.2.1⟩, ⟨h.said.2, h.said.1⟩, ⟨h.took.2, h.took.1⟩, h.below⟩
theorem Sides.keep (h : Sides w0 W sa sb pa pb qa qb VA VB x y ta tb tx ty) (hb : Below W.heap.size W W') : Sides w0 W' sa sb pa pb qa qb VA VB x y ta tb tx ty :=
  ⟨h.xa.below hb, h.xb.below hb, h.ba.below hb h.ba.lt, h.bb.below hb h.bb.lt, h.oa.below hb, h.ob.below hb, h.ap, h.ne, h.qne, ⟨Nat.lt_of_lt_of_le h.lt.1 hb.size, Nat.lt_of_lt_of_le h.lt.2 hb.size⟩, h.bds, h.said, h.took, below_trans h.below h.below.size hb⟩
theorem Sides.old (h : Sides w0 W sa sb pa pb qa qb VA VB x y ta tb tx ty) : ∀ g, Xs ta tb g → g < W.heap.size := fun g hg => by
  rcases hg with e | e
  · exact (h.oa.block g e).2
  · exact (h.ob.block g e).2
theorem hearM_said (x : ExM) (d : DdV) (S : List Hd) (h : x.said.hs.length ≤ 60) : (hearM x d S).1.said.hs.length ≤ 60 := by
  have hp : ∀ (H : List Hd) (k : Nat), (pieceAt H k).length ≤ 60 := fun H k => by unfold pieceAt; rw [List.length_take]; omega
  unfold hearM
  split
  · exact h
  split
  · cases hb : beginM x d S with
    | none => exact h
    | some y =>
      simp only
      unfold beginM at hb
      split at hb
      · injection hb with hb; subst hb; exact hp _ _
      split at hb
      · injection hb with hb; subst hb; exact hp _ _
      · cases hb
  split
  · exact h
  split
  · show (takeM x d).said.hs.length ≤ 60
    unfold takeM
    split
    · split
      · exact h
      · exact hp _ _
    · exact hp _ _
  · exact h
/-- the first heard: the exchanges, the sides, the rows -/
theorem Sides.heard (h : Sides w0 W sa sb pa pb qa qb VA VB x y ta tb tx ty) {d : DdV} {S : List Hd} {r : Ending} (hh : Heard (Xs ta tb) x d S pa qa W W' r) :
    r = .returned (.int .i64 (hearM x d S).2) ∧ (∃ q, Sides w0 W' sa sb pa pb q qb VA VB (hearM x d S).1 y ta tb tx ty) ∧ (∀ {g : Nat} {t : TypeId} {cs : Array Value}, Blk W g t cs → 65 ≠ t → 79 ≠ t → Blk W' g t cs) ∧ (∀ {B : Nat} {v : Value} {L : List Hd}, OwnT W B v L → OwnT W' B v L) := by
  obtain ⟨s, hr, he, h1, h2, hm⟩ := hh
  have hP : ∀ g, (g = pa ∨ (x.ag = true ∧ g = qa)) → ∃ t cs, Blk W g t cs ∧ (t = 65 ∨ t = 79) := fun g hg => by
    rcases hg with rfl | ⟨ha, rfl⟩
    · obtain ⟨hv, hp, -⟩ := h.xa.ptr
      exact ⟨_, _, hp, .inl rfl⟩
    · obtain ⟨v, hs⟩ := h.xa.sum ha
      exact ⟨_, _, hs.ptr, .inr rfl⟩
  have hblk : ∀ {g : Nat} {t : TypeId} {cs : Array Value}, Blk W g t cs → 65 ≠ t → 79 ≠ t → Blk W' g t cs := fun hb n1 n2 => hm.blk hb (fun hg => by
    obtain ⟨t', cs', hb', e⟩ := hP _ hg
    have := blk_type hb hb'
    rcases e with e | e
    · exact n1 (e.symm.trans this.symm)
    · exact n2 (e.symm.trans this.symm))
  have hown : ∀ {B : Nat} {v : Value} {L : List Hd}, OwnT W B v L → OwnT W' B v L := fun ho => hm.own ho (fun g e hg => by
    obtain ⟨t', cs', hb', e2⟩ := hP g hg
    exact own_ne14 ho hb' (by rcases e2 with rfl | rfl <;> decide) e)
  have hsz : W.heap.size ≤ W'.heap.size := hm.size
  have hsb : w0.heap.size ≤ s := by
    cases hag : x.ag with
    | true => rw [h1 hag]; exact h.bds.2.2.2.2.1
    | false => rcases h2 hag with e | e
               · rw [e]; exact h.bds.2.2.2.2.1
               · exact Nat.le_trans h.below.size e
  refine ⟨hr, ?_, hblk, hown⟩
  have hxb : ExAt (Xs ta tb) W' pb qb y := by
    refine h.xb.moved hm (fun hg => ?_) (fun ey hg => ?_) (fun g hg => ?_)
    · rcases hg with e | ⟨ha, e⟩
      · exact h.ne.1 e.symm
      · obtain ⟨v, hs⟩ := h.xa.sum ha
        obtain ⟨hv, hp, -⟩ := h.xb.ptr
        have := blk_type (e ▸ hp) hs.ptr
        revert this; decide
    · rcases hg with e | ⟨ha, e⟩
      · obtain ⟨v, hs⟩ := h.xb.sum ey
        obtain ⟨hv, hp, -⟩ := h.xa.ptr
        have := blk_type (e ▸ hs.ptr) hp
        revert this; decide
      · exact h.qne e.symm
    · obtain ⟨t', cs', hb', e2⟩ := hP g hg
      exact .inr ⟨t', cs', hb', by rcases e2 with rfl | rfl <;> decide⟩
  obtain ⟨q, heq, hq1, hq2, hq3⟩ : ∃ q, ExAt (Xs ta tb) W' pa q (hearM x d S).1 ∧ w0.heap.size ≤ q ∧ q < W'.heap.size ∧ q ≠ qb := by
    cases hag' : (hearM x d S).1.ag with
    | false => exact ⟨qa, he.anyS hag', h.bds.2.2.2.2.1, Nat.lt_of_lt_of_le h.lt.1 hsz, h.qne⟩
    | true =>
      obtain ⟨v, hs⟩ := he.sum hag'
      refine ⟨s, he, hsb, hs.ptr.lt, ?_⟩
      cases hag : x.ag with
      | true => rw [h1 hag]; exact h.qne
      | false => rcases h2 hag with e | e
                 · rw [e]; exact h.qne
                 · have := h.lt.2; omega
  exact ⟨q, heq, hxb, hblk h.ba (by decide) (by decide), hblk h.bb (by decide) (by decide), hown h.oa, hown h.ob, h.ap, h.ne, hq3, ⟨hq2, Nat.lt_of_lt_of_le h.lt.2 hsz⟩, ⟨h.bds.1, h.bds.2.1, h.bds.2.2.1, h.bds.2.2.2.1, hq1, h.bds.2.2.2.2.2⟩, ⟨hearM_said _ _ _ h.said.1, h.said.2⟩, h.took, hm.bel h.below h.below.size (fun g hg => by rcases hg with rfl | ⟨-, rfl⟩; exact h.bds.2.2.1; exact h.bds.2.2.2.2.1)⟩
/-- what else stays while the first hears -/
theorem Sides.heardOwn (h : Sides w0 W sa sb pa pb qa qb VA VB x y ta tb tx ty) {d : DdV} {S : List Hd} {r : Ending} (hh : Heard (Xs ta tb) x d S pa qa W W' r) {α : Type} {e : TypeId} {C B : Nat} {cells : α → List Value} {v : Value} {L : List α} (ho : OwnR e C cells W B v L) (n1 : e ≠ 65) (n2 : e ≠ 79) : OwnR e C cells W' B v L := by
  obtain ⟨s, hr, he, h1, h2, hm⟩ := hh
  refine hm.own ho (fun g e2 hg => ?_)
  rcases hg with rfl | ⟨ha, rfl⟩
  · obtain ⟨hv, hp, -⟩ := h.xa.ptr
    exact own_ne14 ho hp n1 e2
  · obtain ⟨v, hs⟩ := h.xa.sum ha
    exact own_ne14 ho hs.ptr n2 e2
/-- one more row behind what it took, stored -/
theorem Sides.tookMore {W2 : World} {v : Value} {hs : List Hd} (h : Sides w0 W sa sb pa pb qa qb VA VB x y ta tb tx ty) (ho : OwnT W2 w0.heap.size v (tx ++ hs)) (hg : W.grownBy W2 ta.ownBlock) (hv : v.ownBlock = ta.ownBlock ∨ v.ownBlock = some W.heap.size) (hl : tx.length + hs.length ≤ 2 ^ 20) :
    Sides w0 (W2.setCell ⟨sa, 2, none⟩ v) sa sb pa pb qa qb VA VB x y v tb (tx ++ hs) ty := by
  have hsz : W.heap.size ≤ W2.heap.size := hg.size
  obtain ⟨Y, hY⟩ : ∃ Y : Nat → Prop, Y = fun g => Xs ta tb g ∨ g = W.heap.size := ⟨_, rfl⟩
  have hrow : ∀ {B : Nat} {u : Value} {L : List Hd}, OwnT W B u L → (∀ g, u.ownBlock = some g → ta.ownBlock ≠ some g) → OwnT W2 B u L := fun h2 hne => h2.kept hg (by
    rename_i u L
    cases e : u.ownBlock with
    | none => exact .inl rfl
    | some m => exact .inr (fun e2 => hne m e e2.symm))
  have hblk : ∀ {g : Nat} {t : TypeId} {cs : Array Value}, Blk W g t cs → 56 ≠ t → Blk W2 g t cs := fun hb hne => hb.grown hg (fun e => by
    exact own_ne14 h.oa hb hne e.symm)
  have hex : ∀ {p q : Nat} {z : ExM}, ExAt (Xs ta tb) W p q z → ExAt Y W2 p q z := fun h2 => by
    have h3 : ExAt Y W _ _ _ := h2.reX (Y := Y) (fun g e => by rw [hY] at e; rcases e with e | e; exact .inl e; exact .inr (by omega))
    obtain ⟨u, h4, h5, h6⟩ := h3.ptrX
    refine .of ⟨u, hblk h4 (by decide), hrow h5 (fun g e1 e2 => h6 g e1 (by rw [hY]; exact .inl (.inl e2))), h6⟩ (fun e => ?_) h3.le h3.rng
    obtain ⟨v', h7, h8⟩ := h3.sumX e
    exact ⟨v', ⟨hblk h7.ptr (by decide), hrow h7.own (fun g e1 e2 => h8 g e1 (by rw [hY]; exact .inl (.inl e2)))⟩, h8⟩
  have hset : ∀ {p q : Nat} {z : ExM}, ExAt Y W2 p q z → ExAt Y (W2.setCell ⟨sa, 2, none⟩ v) p q z := fun h2 => by
    refine h2.moved (P := fun g => g = sa) (.one (grown_set W2 sa 2 v) rfl) (fun e => ?_) (fun e1 e2 => ?_) (fun g e => .inr ⟨_, _, e ▸ hblk h.ba (by decide), by decide⟩)
    · obtain ⟨u, h4, -⟩ := h2.ptr
      have := blk_type (e ▸ h4) (hblk h.ba (by decide))
      revert this; decide
    · obtain ⟨u, h4⟩ := h2.sum e1
      have := blk_type (e2 ▸ h4.ptr) (hblk h.ba (by decide))
      revert this; decide
  have hfin : ∀ {p q : Nat} {z : ExM}, ExAt (Xs ta tb) W p q z → ExAt (Xs v tb) (W2.setCell ⟨sa, 2, none⟩ v) p q z := fun h2 => (hset (hex h2)).reX (fun g e => by
    rw [hY]
    rcases e with e | e
    · rcases hv with e2 | e2
      · exact .inl (.inl (.inl (e2.symm.trans e)))
      · rw [e2] at e; injection e with e; exact .inl (.inr e.symm)
    · exact .inl (.inl (.inr e)))
  have hob : OwnT W2 w0.heap.size tb ty := hrow h.ob (fun g e1 e2 => by
    rcases h.ap with e | e
    · rw [e] at e2; cases e2
    · exact e (e2.trans e1.symm))
  have hrs : ∀ {B : Nat} {u : Value} {L : List Hd}, OwnT W2 B u L → OwnT (W2.setCell ⟨sa, 2, none⟩ v) B u L := fun h2 => h2.kept (grown_set W2 sa 2 v) (.inr (own_ne14 h2 (hblk h.ba (by decide)) (by decide)))
  have hba2 : Blk (W2.setCell ⟨sa, 2, none⟩ v) sa 48 #[.pointer (some ⟨pa, 0, none⟩), VA, v] := by simpa using (hblk h.ba (by decide)).set_ 2 v
  have hbw : Below w0.heap.size w0 W2 := h.below.grown hg h.below.size (fun m e => (h.oa.block m e).1)
  refine ⟨hfin h.xa, hfin h.xb, hba2, (hblk h.bb (by decide)).grown (grown_set W2 sa 2 v) (fun e => h.ne.2 (by injection e with e; exact e.symm)), hrs ho, hrs hob, ?_, h.ne, h.qne, ⟨by have := h.lt.1; simp; omega, by have := h.lt.2; simp; omega⟩, h.bds, h.said, ⟨by rw [List.length_append]; omega, h.took.2⟩, hbw.setCell (p := ⟨sa, 2, none⟩) h.bds.1 v⟩
  rcases hv with e | e
  · rw [e]; exact h.ap
  · right
    rw [e]
    intro e2
    have := (h.ob.block _ e2.symm).2
    omega
theorem Sides.tookFrame {W2 : World} {v : Value} (h : Sides w0 W sa sb pa pb qa qb VA VB x y ta tb tx ty) (hg : W.grownBy W2 ta.ownBlock) {B : Nat} {u : Value} {L : List Hd} (h2 : OwnT W B u L) (hne : ∀ g, u.ownBlock = some g → ta.ownBlock ≠ some g) : OwnT (W2.setCell ⟨sa, 2, none⟩ v) B u L := by
  have hrow : OwnT W2 B u L := h2.kept hg (by
    cases e : u.ownBlock with
    | none => exact .inl rfl
    | some m => exact .inr (fun e2 => hne m e e2.symm))
  have hb : Blk W2 sa 48 _ := h.ba.grown hg (fun e => own_ne14 h.oa h.ba (by decide) e.symm)
  exact hrow.kept (grown_set W2 sa 2 v) (.inr (own_ne14 hrow hb (by decide)))
end

end Go.Proofs.Ytfpjkeddcagfcaa

/-
  append of a whole row, as an equation on its run.
-/
namespace Go.Proofs.Ytfpjkeddcagfcaa
open Go.RowKit

theorem app_rows_run {α : Type} {e sl : TypeId} {C bytes : Nat} (cells : α → List Value) (hC : ∀ x, (cells x).length = C) (hC0 : 0 < C) (hbytes : bytes ≤ 1000) {z : Value} (hinfo : (Try.prog.info? e).map (fun i => (i.zero, i.size, i.bytes)) = some (some z, C, bytes)) (hzs : z.cells.size = C) (hsl : Try.prog.underlying sl = some (.slice e))
    (h1 : ∀ x, ∀ u ∈ cells x, u.oneCell' = true) {w : World} (ty : TypeId) (base : Nat) (v : Value) (L : List α) (hown : OwnR e C cells w base v L) (A : Option Addr) (c m : Nat) (M : List α) (hm : m = M.length) (hM : RowsAt C cells w w.heap.size A M) (hlen : L.length + M.length ≤ 2 ^ 30) (hbase : base ≤ w.heap.size) :
    ∃ v' w', (Builtin.append_ #[sl, sl] ty #[v, .slice A m c]).run Try.prog w = .ok v' w' ∧ OwnR e C cells w' base v' (L ++ M) ∧ w.grownBy w' v.ownBlock ∧ (v'.ownBlock = v.ownBlock ∨ v'.ownBlock = some w.heap.size) := by
  subst hm
  obtain ⟨i0, hi, hz0, hz1, hz2⟩ := info_parts hinfo
  obtain ⟨v', w', h, h2, h3, h4⟩ := run_append_any (P := Try.prog) w base sl ty e i0 z C bytes hsl hi hz0 hz1 hz2 hzs hC0 v L.length (L.flatMap cells) hown w.heap.size A M.length c (M.flatMap cells)
    (rows_reads hC hC0 hM) (fun u hu => by obtain ⟨y, _, hy⟩ := List.mem_flatMap.1 hu; exact h1 y u hy) (by unfold maxLen; omega)
    (Nat.le_trans (Nat.mul_le_mul hlen hbytes) (by decide)) hbase
  refine ⟨v', w', h, ?_, h3, h4⟩
  unfold OwnR
  rw [List.length_append, List.flatMap_append]
  exact h2
theorem cap_le {e : TypeId} {C : Nat} {α : Type} {cells : α → List Value} {w : World} {B n c : Nat} {A : Option Addr} {L : List α} (h : OwnR e C cells w B (.slice A n c) L) : n ≤ c := by
  rcases h.2 with ⟨hv, hn⟩ | ⟨g, cap, cur, hv, -, -, hnc, -⟩
  · injection hv with h1 h2 h3
    omega
  · injection hv with h1 h2 h3
    omega

end Go.Proofs.Ytfpjkeddcagfcaa

/-
  A region that draws its order: all its operations keep what the others read; taken one by one.
-/
namespace Go.Proofs.Ytfpjkeddcagfcaa
open Go Go.RowKit

section
variable {P : Program} {ops : Array Oper} {md : Region.Mode} {F : World → Prop} {n : Nat} {Q : Exit → Act → World → Prop}
theorem wpAnyG_first (hl : ops.size ≤ n) {i : Nat} {oi : Oper} {v : Value} (hi : ops[i]? = some oi) (hsel : ∀ (j : Nat) (o : Oper) cs b, ops[j]? = some o → o.op ≠ .select cs b)
    (hQ : ∀ c a w, Q (.panic c) (a.put oi.dst v) w → Q (.panic c) a w) :
    ∀ (f : Nat) (s : Array Bool) (a : Act) (w : World), (∀ j oj, ops[j]? = some oj → j ≠ i → s.getD j true = false → (∀ e ∈ oj.after, Region.binds md e = true → e.on ≠ i) → oi.apart ops oj = true) →
      i ∈ Region.ready md ops s → YieldsIf P ops F oi v a → F w → wpAnyF P md ops Q F n f (s.setIfInBounds i true) (a.put oi.dst v) w → wpAnyF P md ops Q F n (f + 1) s a w := by
  intro f
  induction f with
  | zero =>
    intro s a w _ hr hy hF H
    refine ⟨fun h => (by rw [h] at hr; cases hr), fun j hj => ?_⟩
    by_cases hji : j = i
    · subst hji; exact hy.wpOp hi hF ⟨fun _ => hF, H⟩
    · have := ready_mono hj hji
      rw [H.1] at this
      cases this
  | succ f ih =>
    intro s a w hfree hr hy hF H
    refine ⟨fun h => (by rw [h] at hr; cases hr), fun j hj => ?_⟩
    by_cases hji : j = i
    · subst hji; exact hy.wpOp hi hF ⟨fun _ => hF, H⟩
    · have hun := (mem_ready.1 hr).1
      have h1 := H.2 j (ready_mono hj hji)
      obtain ⟨hjun, oj, hoj, hall⟩ := mem_ready.1 hj
      have hjn : j < n := Nat.lt_of_lt_of_le (Array.getElem?_eq_some_iff.1 hoj).1 hl
      have hnot : ∀ e ∈ oj.after, Region.binds md e = true → e.on ≠ i := fun e he hb heq => by
        have h1 := hall e he hb
        rw [heq, getD_both hun] at h1
        exact Bool.noConfusion h1
      have h2 := wpOp_putIf hoj (hfree j oj hoj hji hjun hnot) (fun cs b => hsel i oi cs b hi) (fun cs b => hsel j oj cs b hoj) hQ hy h1
      have hfree' : ∀ k ok, ops[k]? = some ok → k ≠ i → (s.setIfInBounds j true).getD k true = false → (∀ e ∈ ok.after, Region.binds md e = true → e.on ≠ i) → oi.apart ops ok = true := fun k ok hk hki hun hno => by
        refine hfree k ok hk hki ?_ hno
        by_cases hjk : j = k
        · subst hjk; exact hjun
        · rw [getD_set_ne true hjk] at hun; exact hun
      refine wpOp_mono (fun a' w' h3 => ⟨fun _ => h3.2.1 hjn, ih (s.setIfInBounds j true) a' w' hfree' (ready_mono hr (Ne.symm hji)) h3.1 (h3.2.1 hjn) ?_⟩) h2
      rw [Array.setIfInBounds_comm _ _ hji]
      exact h3.2.2
theorem G_take {i : Nat} {oi : Oper} {v : Value} {d : Option Nat} {f : Nat} {s s' : Array Bool} {a : Act} {w : World} (hl : ops.size ≤ n) (hs' : s.setIfInBounds i true = s') (hi : ops[i]? = some oi) (hd : oi.dst = d) (hs : Region.noSelect ops = true)
    (hf : Region.free md ops s i = true) (hr : (Region.ready md ops s).contains i = true) (hQ : ∀ c a w, Q (.panic c) (a.put oi.dst v) w → Q (.panic c) a w) (hy : YieldsIf P ops F oi v a) (hF : F w)
    (h : wpAnyF P md ops Q F n f s' (a.put d v) w) : wpAnyF P md ops Q F n (f + 1) s a w :=
  wpAnyG_first hl hi (Region.noSelect_spec hs) hQ f s a w (Region.free_spec hi hf) (by simpa using hr) hy hF (by rw [hd, hs']; exact h)
end

end Go.Proofs.Ytfpjkeddcagfcaa

/-
  Layer 14: one side hears what the other one said last.
-/
namespace Go.Proofs.Ytfpjkeddcagfcaa
open Go.RowKit Go.Sort

/-- what hearing the other one leaves -/
def Hears (w0 w w' : World) (sa sb pa pb qb : Nat) (VA VB : Value) (x y : ExM) (ta tb : Value) (tx ty : List Hd) (S : List Hd) (r : Ending) : Prop :=
  r = .returned (.bool ((hearM x y.said S).2 != 3)) ∧ ∃ q t, Sides w0 w' sa sb pa pb q qb VA VB (hearM x y.said S).1 y t tb (tookX tx (hearM x y.said S).2 y.said.hs) ty ∧
    (∀ (B : Nat) (v : Value) (L : List Hd), OwnT w B v L → (∀ g, v.ownBlock = some g → ta.ownBlock ≠ some g) → OwnT w' B v L ∧ ∀ g, v.ownBlock = some g → t.ownBlock ≠ some g)
theorem ownT_slice {w : World} {B : Nat} {v : Value} {L : List Hd} (h : OwnT w B v L) : ∃ A n c, v = .slice A n c ∧ L.length = n := by
  obtain ⟨A, c, hv⟩ := h.shape
  exact ⟨A, _, c, hv, rfl⟩
set_option maxHeartbeats 16000000 in
set_option maxRecDepth 100000 in
theorem hears_any (w0 w : World) (sa sb pa pb qa qb : Nat) (A : Option Addr) (m c : Nat) (VB : Value) (x y : ExM) (ta tb : Value) (tx ty : List Hd) (S : List Hd) (hS : S.length ≤ 60) (h : Sides w0 w sa sb pa pb qa qb (.slice A m c) VB x y ta tb tx ty) (htx : tx.length + 60 ≤ 2 ^ 20)
    (HN : ∀ W, Below w0.heap.size w0 W → Calls Try.prog 34 #[.slice A m c] W fun r w' => r = .returned (.pointer (some ⟨W.heap.size, 0, none⟩)) ∧ (∃ v, SmAt w' W.heap.size v 0 S) ∧ Below W.heap.size W w') :
    Calls Try.prog 15 #[.pointer (some ⟨sa, 0, none⟩), .pointer (some ⟨sb, 0, none⟩)] w fun r w' => Hears w0 w w' sa sb pa pb qb (.slice A m c) VB x y ta tb tx ty S r := by
  have H0 := Lib.hid h
  have HNe := Lib.hid HN
  have HS := Lib.hid hS
  have Htx := Lib.hid htx
  have HT := Lib.hid (told_any pb qb y w h.xb (by have := h.said.2; omega))
  obtain ⟨b0, b1, b2⟩ : _ ∧ _ ∧ _ := ⟨h.bb.cell 0, h.bb.cell 1, h.bb.cell 2⟩
  simp only [List.getElem?_toArray, List.getElem?_cons_zero, List.getElem?_cons_succ] at b0 b1 b2
  obtain ⟨sd, hsd⟩ : ∃ d, y.said = d := ⟨_, rfl⟩
  obtain ⟨yi, ym, ys, yq, yh⟩ := sd
  rw [hsd] at HT
  have Hsd := Lib.hid hsd
  simp only at HT
  clear h HN hS htx hsd
  go_enter Try.func15, Try.ntmps15
  go_wp2_with fail
  with_reducible refine Calls.mono HT.out ?_
  rintro r w2 ⟨u, rfl, ho2, hb2⟩
  obtain ⟨Au, nu, cu, hu, hnu⟩ := ownT_slice ho2
  subst hu
  have H2 := Lib.hid (H0.out.keep hb2)
  have HU2 := Lib.hid ho2
  have HF2 := Lib.hid (fun (B : Nat) (v : Value) (L : List Hd) (h : OwnT w B v L) => (show OwnT w2 B v L from h.below hb2))
  have Hnu := Lib.hid hnu
  clear hb2 ho2 b0 b1 b2 hnu
  go_wp2_with fail
  obtain ⟨w3, hw3⟩ : ∃ w3, w2.alloc (.cells #[.bool yi, .bool ym, .bool ys, .int .i64 yq, .slice Au nu cu] 33) = w3 := ⟨_, rfl⟩
  rw [hw3]
  obtain ⟨g3, hg3⟩ : ∃ g3, w2.heap.size = g3 := ⟨_, rfl⟩
  rw [hg3]
  have hd := Blk.new w2 33 #[.bool yi, .bool ym, .bool ys, .int .i64 yq, .slice Au nu cu]
  have hb3 := below_new w2 (.cells #[.bool yi, .bool ym, .bool ys, .int .i64 yq, .slice Au nu cu] 33)
  rw [hw3, hg3] at hd
  rw [hw3] at hb3
  have H3 := Lib.hid (H2.out.keep hb3)
  have HU3 := Lib.hid (HU2.out.below hb3)
  have HD3 := Lib.hid hd
  have HF3 := Lib.hid (fun (B : Nat) (v : Value) (L : List Hd) (h : OwnT w B v L) => (show OwnT w3 B v L from (HF2.out B v L h).below hb3))
  clear hd hb3 hw3 hg3
  refine wp_region_F (F := fun W => Blk W sa 48 #[.pointer (some ⟨pa, 0, none⟩), .slice A m c, ta] ∧ Blk W g3 33 #[.bool yi, .bool ym, .bool ys, .int .i64 yq, .slice Au nu cu]) (n := 11) (m := 11) (s := #[false, false, false, false, false, false, false, false, false, false, false]) (by kernel_rfl) (by kernel_rfl) (by kernel_rfl) ?_
  intro wd hwd
  have hbd : Below w3.heap.size w3 wd := by rw [hwd.out]; exact (Below.refl _ _).drew
  have H4 := Lib.hid (H3.out.keep hbd)
  have hF := And.intro H4.out.ba (HD3.out.below hbd HD3.out.lt)
  have HU4 := Lib.hid (HU3.out.below hbd)
  have HF4 := Lib.hid (fun (B : Nat) (v : Value) (L : List Hd) (h : OwnT w B v L) => (show OwnT wd B v L from (HF3.out B v L h).below hbd))
  clear hwd hbd
  refine G_take (i := 0) (d := some 16) (by decide) (s' := #[true, false, false, false, false, false, false, false, false, false, false]) (by kernel_rfl) rfl rfl (by kernel_rfl) (by kernel_rfl) (by kernel_rfl) (fun _ _ _ h => h) (Or.inl ⟨by kernel_rfl, fun W hW => by obtain ⟨a0, a1, a2, a3, a4⟩ := blk5 hW.2; obtain ⟨z0, z1, z2⟩ : _ ∧ _ ∧ _ := ⟨hW.1.cell 0, hW.1.cell 1, hW.1.cell 2⟩; simp only [List.getElem?_toArray, List.getElem?_cons_zero, List.getElem?_cons_succ] at z0 z1 z2; go_simp; try with_reducible rfl⟩) hF ?_
  go_frame
  refine G_take (i := 1) (d := some 17) (by decide) (s' := #[true, true, false, false, false, false, false, false, false, false, false]) (by kernel_rfl) rfl rfl (by kernel_rfl) (by kernel_rfl) (by kernel_rfl) (fun _ _ _ h => h) (Or.inl ⟨by kernel_rfl, fun W hW => by obtain ⟨a0, a1, a2, a3, a4⟩ := blk5 hW.2; obtain ⟨z0, z1, z2⟩ : _ ∧ _ ∧ _ := ⟨hW.1.cell 0, hW.1.cell 1, hW.1.cell 2⟩; simp only [List.getElem?_toArray, List.getElem?_cons_zero, List.getElem?_cons_succ] at z0 z1 z2; go_simp; try with_reducible rfl⟩) hF ?_
  go_frame
  refine G_take (i := 2) (d := some 18) (by decide) (s' := #[true, true, true, false, false, false, false, false, false, false, false]) (by kernel_rfl) rfl rfl (by kernel_rfl) (by kernel_rfl) (by kernel_rfl) (fun _ _ _ h => h) (Or.inl ⟨by kernel_rfl, fun W hW => by obtain ⟨a0, a1, a2, a3, a4⟩ := blk5 hW.2; obtain ⟨z0, z1, z2⟩ : _ ∧ _ ∧ _ := ⟨hW.1.cell 0, hW.1.cell 1, hW.1.cell 2⟩; simp only [List.getElem?_toArray, List.getElem?_cons_zero, List.getElem?_cons_succ] at z0 z1 z2; go_simp; try with_reducible rfl⟩) hF ?_
  go_frame
  refine G_take (i := 3) (d := some 19) (by decide) (s' := #[true, true, true, true, false, false, false, false, false, false, false]) (by kernel_rfl) rfl rfl (by kernel_rfl) (by kernel_rfl) (by kernel_rfl) (fun _ _ _ h => h) (Or.inl ⟨by kernel_rfl, fun W hW => by obtain ⟨a0, a1, a2, a3, a4⟩ := blk5 hW.2; obtain ⟨z0, z1, z2⟩ : _ ∧ _ ∧ _ := ⟨hW.1.cell 0, hW.1.cell 1, hW.1.cell 2⟩; simp only [List.getElem?_toArray, List.getElem?_cons_zero, List.getElem?_cons_succ] at z0 z1 z2; go_simp; try with_reducible rfl⟩) hF ?_
  go_frame
  refine G_take (i := 4) (d := some 20) (by decide) (s' := #[true, true, true, true, true, false, false, false, false, false, false]) (by kernel_rfl) rfl rfl (by kernel_rfl) (by kernel_rfl) (by kernel_rfl) (fun _ _ _ h => h) (Or.inl ⟨by kernel_rfl, fun W hW => by obtain ⟨a0, a1, a2, a3, a4⟩ := blk5 hW.2; obtain ⟨z0, z1, z2⟩ : _ ∧ _ ∧ _ := ⟨hW.1.cell 0, hW.1.cell 1, hW.1.cell 2⟩; simp only [List.getElem?_toArray, List.getElem?_cons_zero, List.getElem?_cons_succ] at z0 z1 z2; go_simp; try with_reducible rfl⟩) hF ?_
  go_frame
  refine G_take (i := 5) (d := some 21) (by decide) (s' := #[true, true, true, true, true, true, false, false, false, false, false]) (by kernel_rfl) rfl rfl (by kernel_rfl) (by kernel_rfl) (by kernel_rfl) (fun _ _ _ h => h) (Or.inl ⟨by kernel_rfl, fun W hW => by obtain ⟨a0, a1, a2, a3, a4⟩ := blk5 hW.2; obtain ⟨z0, z1, z2⟩ : _ ∧ _ ∧ _ := ⟨hW.1.cell 0, hW.1.cell 1, hW.1.cell 2⟩; simp only [List.getElem?_toArray, List.getElem?_cons_zero, List.getElem?_cons_succ] at z0 z1 z2; go_simp; try with_reducible rfl⟩) hF ?_
  go_frame
  refine G_take (i := 6) (d := some 22) (by decide) (s' := #[true, true, true, true, true, true, true, false, false, false, false]) (by kernel_rfl) rfl rfl (by kernel_rfl) (by kernel_rfl) (by kernel_rfl) (fun _ _ _ h => h) (Or.inl ⟨by kernel_rfl, fun W hW => by obtain ⟨a0, a1, a2, a3, a4⟩ := blk5 hW.2; obtain ⟨z0, z1, z2⟩ : _ ∧ _ ∧ _ := ⟨hW.1.cell 0, hW.1.cell 1, hW.1.cell 2⟩; simp only [List.getElem?_toArray, List.getElem?_cons_zero, List.getElem?_cons_succ] at z0 z1 z2; go_simp; try with_reducible rfl⟩) hF ?_
  go_frame
  refine G_take (i := 7) (d := some 23) (by decide) (s' := #[true, true, true, true, true, true, true, true, false, false, false]) (by kernel_rfl) rfl rfl (by kernel_rfl) (by kernel_rfl) (by kernel_rfl) (fun _ _ _ h => h) (Or.inl ⟨by kernel_rfl, fun W hW => by obtain ⟨a0, a1, a2, a3, a4⟩ := blk5 hW.2; obtain ⟨z0, z1, z2⟩ : _ ∧ _ ∧ _ := ⟨hW.1.cell 0, hW.1.cell 1, hW.1.cell 2⟩; simp only [List.getElem?_toArray, List.getElem?_cons_zero, List.getElem?_cons_succ] at z0 z1 z2; go_simp; try with_reducible rfl⟩) hF ?_
  go_frame
  refine G_take (i := 8) (d := some 24) (by decide) (s' := #[true, true, true, true, true, true, true, true, true, false, false]) (by kernel_rfl) rfl rfl (by kernel_rfl) (by kernel_rfl) (by kernel_rfl) (fun _ _ _ h => h) (Or.inl ⟨by kernel_rfl, fun W hW => by obtain ⟨a0, a1, a2, a3, a4⟩ := blk5 hW.2; obtain ⟨z0, z1, z2⟩ : _ ∧ _ ∧ _ := ⟨hW.1.cell 0, hW.1.cell 1, hW.1.cell 2⟩; simp only [List.getElem?_toArray, List.getElem?_cons_zero, List.getElem?_cons_succ] at z0 z1 z2; go_simp; try with_reducible rfl⟩) hF ?_
  go_frame
  refine F_one (i := 9) (s' := #[true, true, true, true, true, true, true, true, true, true, false]) (by kernel_rfl) (by kernel_rfl) ?_
  have hH := hear_any (X := Xs ta tb) pa qa x ⟨yi, ym, ys, yq, yh⟩ Au cu A m c S wd H4.out.xa H4.out.old HS.out (fun _ => by have := H4.out.said.2; rw [Hsd.out] at this; simp only at this ⊢; omega) (fun W hW => HNe.out W (H4.out.below.grown hW H4.out.below.size (fun g e => by injection e with e; rw [← e]; exact H4.out.bds.2.2.1)))
  simp only [DdV.val, Hnu.out] at hH
  refine (wpOp_enterL (i := 9) (d := some 25) (f := 11) (args := #[.pointer (some ⟨pa, 0, none⟩), .agg #[.bool yi, .bool ym, .bool ys, .int .i64 yq, .slice Au nu cu], .slice A m c]) rfl rfl (by kernel_rfl) (by go_simp) (hH.mono ?_))
  rintro r w5 hh
  obtain ⟨rfl, ⟨q5, h5⟩, hk5, ho5⟩ := H4.out.heard hh
  have hF0 := hF.2
  have hF : Blk w5 sa 48 #[.pointer (some ⟨pa, 0, none⟩), .slice A m c, ta] ∧ Blk w5 g3 33 #[.bool yi, .bool ym, .bool ys, .int .i64 yq, .slice Au nu cu] := ⟨h5.ba, hk5 hF0 (by decide) (by decide)⟩
  have H5 := Lib.hid h5
  have HU5 := Lib.hid (ho5 HU4.out)
  have HF5 := Lib.hid (fun (B : Nat) (v : Value) (L : List Hd) (h : OwnT w B v L) => (show OwnT w5 B v L from ho5 (HF4.out B v L h)))
  clear hh hH h5 hk5 ho5 hF0
  obtain ⟨z, hz⟩ : ∃ z, (hearM x ⟨yi, ym, ys, yq, yh⟩ S).2 = z := ⟨_, rfl⟩
  obtain ⟨x', hx'⟩ : ∃ x', (hearM x ⟨yi, ym, ys, yq, yh⟩ S).1 = x' := ⟨_, rfl⟩
  rw [hx'] at H5
  rw [hz]
  refine ⟨_, rfl, fun _ => hF, ?_⟩
  go_frame
  refine G_take (i := 10) (d := some 7) (by decide) (s' := #[true, true, true, true, true, true, true, true, true, true, true]) (by kernel_rfl) rfl rfl (by kernel_rfl) (by kernel_rfl) (by kernel_rfl) (fun _ _ _ h => h) (Or.inl ⟨by kernel_rfl, fun W hW => by obtain ⟨a0, a1, a2, a3, a4⟩ := blk5 hW.2; obtain ⟨z0, z1, z2⟩ : _ ∧ _ ∧ _ := ⟨hW.1.cell 0, hW.1.cell 1, hW.1.cell 2⟩; simp only [List.getElem?_toArray, List.getElem?_cons_zero, List.getElem?_cons_succ] at z0 z1 z2; go_simp; try with_reducible rfl⟩) hF ?_
  go_frame
  refine F_done (by kernel_rfl) ?_ _
  have Hz := Lib.hid hz
  have Hx' := Lib.hid hx'
  have HD5 := Lib.hid hF.2
  clear hF hz hx'
  by_cases h2 : z = 2
  · subst h2
    go_wp2_with fail
    obtain ⟨At, nt, ct, hta, hnt⟩ := ownT_slice H5.out.oa
    subst hta
    have Hnt := Lib.hid hnt
    have Hny := Lib.hid (show yh.length ≤ 60 from by have := H5.out.said.2; rw [Hsd.out] at this; exact this)
    clear hnt
    refine wp_region_F (F := fun W => Blk W sa 48 #[.pointer (some ⟨pa, 0, none⟩), .slice A m c, .slice At nt ct] ∧ Blk W g3 33 #[.bool yi, .bool ym, .bool ys, .int .i64 yq, .slice Au nu cu]) (n := 10) (m := 11) (s := #[false, false, false, false, false, false, false, false, false, false, false]) (by kernel_rfl) (by kernel_rfl) (by kernel_rfl) ?_
    intro wd hwd
    have hbd : Below w5.heap.size w5 wd := by rw [hwd.out]; exact (Below.refl _ _).drew
    have H6 := Lib.hid (H5.out.keep hbd)
    have hF := And.intro H6.out.ba (HD5.out.below hbd HD5.out.lt)
    have HU6 := Lib.hid (HU5.out.below hbd)
    have HF6 := Lib.hid (fun (B : Nat) (v : Value) (L : List Hd) (h : OwnT w B v L) => (show OwnT wd B v L from (HF5.out B v L h).below hbd))
    clear hwd hbd
    refine F_take (i := 0) (d := some 28) (by kernel_rfl) (by kernel_rfl) (by decide) (s' := #[true, false, false, false, false, false, false, false, false, false, false]) (by kernel_rfl) rfl rfl (by kernel_rfl) (by kernel_rfl) (by kernel_rfl) (fun _ _ _ h => h) (Or.inl ⟨by kernel_rfl, fun W hW => by obtain ⟨a0, a1, a2, a3, a4⟩ := blk5 hW.2; obtain ⟨z0, z1, z2⟩ : _ ∧ _ ∧ _ := ⟨hW.1.cell 0, hW.1.cell 1, hW.1.cell 2⟩; simp only [List.getElem?_toArray, List.getElem?_cons_zero, List.getElem?_cons_succ] at z0 z1 z2; go_simp; try with_reducible rfl⟩) hF ?_
    go_frame
    refine F_take (i := 1) (d := some 29) (by kernel_rfl) (by kernel_rfl) (by decide) (s' := #[true, true, false, false, false, false, false, false, false, false, false]) (by kernel_rfl) rfl rfl (by kernel_rfl) (by kernel_rfl) (by kernel_rfl) (fun _ _ _ h => h) (Or.inl ⟨by kernel_rfl, fun W hW => by obtain ⟨a0, a1, a2, a3, a4⟩ := blk5 hW.2; obtain ⟨z0, z1, z2⟩ : _ ∧ _ ∧ _ := ⟨hW.1.cell 0, hW.1.cell 1, hW.1.cell 2⟩; simp only [List.getElem?_toArray, List.getElem?_cons_zero, List.getElem?_cons_succ] at z0 z1 z2; go_simp; try with_reducible rfl⟩) hF ?_
    go_frame
    refine F_take (i := 2) (d := some 30) (by kernel_rfl) (by kernel_rfl) (by decide) (s' := #[true, true, true, false, false, false, false, false, false, false, false]) (by kernel_rfl) rfl rfl (by kernel_rfl) (by kernel_rfl) (by kernel_rfl) (fun _ _ _ h => h) (Or.inl ⟨by kernel_rfl, fun W hW => by obtain ⟨a0, a1, a2, a3, a4⟩ := blk5 hW.2; obtain ⟨z0, z1, z2⟩ : _ ∧ _ ∧ _ := ⟨hW.1.cell 0, hW.1.cell 1, hW.1.cell 2⟩; simp only [List.getElem?_toArray, List.getElem?_cons_zero, List.getElem?_cons_succ] at z0 z1 z2; go_simp; try with_reducible rfl⟩) hF ?_
    go_frame
    refine F_take (i := 3) (d := some 31) (by kernel_rfl) (by kernel_rfl) (by decide) (s' := #[true, true, true, true, false, false, false, false, false, false, false]) (by kernel_rfl) rfl rfl (by kernel_rfl) (by kernel_rfl) (by kernel_rfl) (fun _ _ _ h => h) (Or.inl ⟨by kernel_rfl, fun W hW => by obtain ⟨a0, a1, a2, a3, a4⟩ := blk5 hW.2; obtain ⟨z0, z1, z2⟩ : _ ∧ _ ∧ _ := ⟨hW.1.cell 0, hW.1.cell 1, hW.1.cell 2⟩; simp only [List.getElem?_toArray, List.getElem?_cons_zero, List.getElem?_cons_succ] at z0 z1 z2; go_simp; try with_reducible rfl⟩) hF ?_
    go_frame
    refine F_take (i := 4) (d := some 32) (by kernel_rfl) (by kernel_rfl) (by decide) (s' := #[true, true, true, true, true, false, false, false, false, false, false]) (by kernel_rfl) rfl rfl (by kernel_rfl) (by kernel_rfl) (by kernel_rfl) (fun _ _ _ h => h) (Or.inl ⟨by kernel_rfl, fun W hW => by obtain ⟨a0, a1, a2, a3, a4⟩ := blk5 hW.2; obtain ⟨z0, z1, z2⟩ : _ ∧ _ ∧ _ := ⟨hW.1.cell 0, hW.1.cell 1, hW.1.cell 2⟩; simp only [List.getElem?_toArray, List.getElem?_cons_zero, List.getElem?_cons_succ] at z0 z1 z2; go_simp; try with_reducible rfl⟩) hF ?_
    go_frame
    refine F_take (i := 5) (d := some 33) (by kernel_rfl) (by kernel_rfl) (by decide) (s' := #[true, true, true, true, true, true, false, false, false, false, false]) (by kernel_rfl) rfl rfl (by kernel_rfl) (by kernel_rfl) (by kernel_rfl) (fun _ _ _ h => h) (Or.inl ⟨by kernel_rfl, fun W hW => by obtain ⟨a0, a1, a2, a3, a4⟩ := blk5 hW.2; obtain ⟨z0, z1, z2⟩ : _ ∧ _ ∧ _ := ⟨hW.1.cell 0, hW.1.cell 1, hW.1.cell 2⟩; simp only [List.getElem?_toArray, List.getElem?_cons_zero, List.getElem?_cons_succ] at z0 z1 z2; go_simp; try with_reducible rfl⟩) hF ?_
    go_frame
    refine F_take (i := 6) (d := some 34) (by kernel_rfl) (by kernel_rfl) (by decide) (s' := #[true, true, true, true, true, true, true, false, false, false, false]) (by kernel_rfl) rfl rfl (by kernel_rfl) (by kernel_rfl) (by kernel_rfl) (fun _ _ _ h => h) (Or.inl ⟨by kernel_rfl, fun W hW => by obtain ⟨a0, a1, a2, a3, a4⟩ := blk5 hW.2; obtain ⟨z0, z1, z2⟩ : _ ∧ _ ∧ _ := ⟨hW.1.cell 0, hW.1.cell 1, hW.1.cell 2⟩; simp only [List.getElem?_toArray, List.getElem?_cons_zero, List.getElem?_cons_succ] at z0 z1 z2; go_simp; try with_reducible rfl⟩) hF ?_
    go_frame
    refine F_one (i := 7) (s' := #[true, true, true, true, true, true, true, true, false, false, false]) (by kernel_rfl) (by kernel_rfl) ?_
    obtain ⟨v7, w7, hrun, o7, hg7, hor7⟩ := app_rows_run (e := 56) (sl := 31) Hd.cells (fun _ => rfl) (by decide) (bytes := 56) (by decide) infoHd13 rfl Try.underlying31 onesHd13 (w := wd) 31 w0.heap.size _ tx H6.out.oa Au cu nu yh Hnu.out.symm (OwnR.rows (C := 7) (cells := Hd.cells) (fun _ => rfl) HU6.out).2 (by have := Htx.out; have := Hny.out; omega) H6.out.below.size
    have hset := H6.out.tookMore o7 hg7 hor7 (by have := Htx.out; have := Hny.out; omega)
    have hfr := fun (B : Nat) (u : Value) (L : List Hd) (h : OwnT w B u L) (hne : ∀ g, u.ownBlock = some g → (Value.slice At nt ct).ownBlock ≠ some g) => And.intro (H6.out.tookFrame (v := v7) hg7 (HF6.out B u L h) hne) (show ∀ g, u.ownBlock = some g → v7.ownBlock ≠ some g from fun g e1 e2 => by
      rcases hor7 with e | e
      · exact hne g e1 (e.symm.trans e2)
      · rw [e] at e2; injection e2 with e2; have := ((HF6.out B u L h).block g e1).2; omega)
    have hF0 := hF
    have hF : Blk w7 sa 48 #[.pointer (some ⟨pa, 0, none⟩), .slice A m c, .slice At nt ct] ∧ Blk w7 g3 33 #[.bool yi, .bool ym, .bool ys, .int .i64 yq, .slice Au nu cu] := ⟨hF0.1.grown hg7 (fun e => own_ne14 H6.out.oa hF0.1 (by decide) e.symm), hF0.2.grown hg7 (fun e => own_ne14 H6.out.oa hF0.2 (by decide) e.symm)⟩
    refine wpOp_appendL (i := 7) (d := some 35) (t := 31) rfl rfl rfl (by kernel_rfl) rfl (by rfl) (by rfl) hrun ⟨fun _ => hF, ?_⟩
    go_frame
    obtain ⟨A7, c7, hv7⟩ := o7.shape
    obtain ⟨n7, hn7⟩ : ∃ n, (tx ++ yh).length = n := ⟨_, rfl⟩
    rw [hn7] at hv7
    subst hv7
    have HSet := Lib.hid hset
    have HFr := Lib.hid hfr
    clear hrun hg7 hor7 o7 hF0 hset hn7 hfr
    refine F_take (i := 8) (d := some 36) (by kernel_rfl) (by kernel_rfl) (by decide) (s' := #[true, true, true, true, true, true, true, true, true, false, false]) (by kernel_rfl) rfl rfl (by kernel_rfl) (by kernel_rfl) (by kernel_rfl) (fun _ _ _ h => h) (Or.inl ⟨by kernel_rfl, fun W hW => by obtain ⟨a0, a1, a2, a3, a4⟩ := blk5 hW.2; obtain ⟨z0, z1, z2⟩ : _ ∧ _ ∧ _ := ⟨hW.1.cell 0, hW.1.cell 1, hW.1.cell 2⟩; simp only [List.getElem?_toArray, List.getElem?_cons_zero, List.getElem?_cons_succ] at z0 z1 z2; go_simp; try with_reducible rfl⟩) hF ?_
    go_frame
    refine F_take (i := 9) (d := some 37) (by kernel_rfl) (by kernel_rfl) (by decide) (s' := #[true, true, true, true, true, true, true, true, true, true, false]) (by kernel_rfl) rfl rfl (by kernel_rfl) (by kernel_rfl) (by kernel_rfl) (fun _ _ _ h => h) (Or.inl ⟨by kernel_rfl, fun W hW => by obtain ⟨a0, a1, a2, a3, a4⟩ := blk5 hW.2; obtain ⟨z0, z1, z2⟩ : _ ∧ _ ∧ _ := ⟨hW.1.cell 0, hW.1.cell 1, hW.1.cell 2⟩; simp only [List.getElem?_toArray, List.getElem?_cons_zero, List.getElem?_cons_succ] at z0 z1 z2; go_simp; try with_reducible rfl⟩) hF ?_
    go_frame
    refine F_one (i := 10) (s' := #[true, true, true, true, true, true, true, true, true, true, true]) (by kernel_rfl) (by kernel_rfl) ?_
    have hfz := fun j => hF.1.frozen j
    obtain ⟨z0, z1, z2⟩ : _ ∧ _ ∧ _ := ⟨hF.1.cell 0, hF.1.cell 1, hF.1.cell 2⟩
    simp only [List.getElem?_toArray, List.getElem?_cons_zero, List.getElem?_cons_succ] at z0 z1 z2
    obtain ⟨w8, hw8⟩ : ∃ W, w7.setCell ⟨sa, 2, none⟩ (.slice A7 n7 c7) = W := ⟨_, rfl⟩
    rw [hw8] at HSet HFr
    refine wpOp_skipL (i := 10) (w' := w8) rfl rfl (by kernel_rfl) (by go_simp) ⟨fun h => absurd h (by decide), ?_⟩
    go_frame
    refine F_done (by kernel_rfl) ?_ _
    clear hw8 hF z0 z1 z2 hfz
    go_wp2
    go_ret
    unfold Hears
    rw [Hsd.out, Hz.out, Hx'.out]
    exact ⟨by simp, q5, _, HSet.out, HFr.out⟩
  · go_wp2
    go_ret
    unfold Hears
    rw [Hsd.out, Hz.out, Hx'.out]
    unfold tookX
    rw [if_neg h2]
    exact ⟨rfl, q5, ta, H5.out, fun B v L h hne => ⟨HF5.out B v L h, hne⟩⟩

end Go.Proofs.Ytfpjkeddcagfcaa

/-
  Lists of heads that are alike: what the document asks of them.
-/
namespace Go.Proofs.Ytfpjkeddcagfcaa
open Go.RowKit Go.Sort

set_option maxHeartbeats 2000000 in
set_option maxRecDepth 100000 in
theorem Same13s (A A' : Option Addr) (c c' : Nat) (l : List Hd) (w : World) (B B' : Nat) (h : RowsAt 7 Hd.cells w B A l) (h' : RowsAt 7 Hd.cells w B' A' l) (hB : B ≤ w.heap.size) (hB' : B' ≤ w.heap.size) (hlen : l.length ≤ 2 ^ 20) (n n' : Nat) (hn : n = l.length) (hn' : n' = l.length) :
    Calls Try.prog 32 #[.slice A n c, .slice A' n' c'] w fun r w' => r = .returned (.bool true) ∧ Below w.heap.size w w' := by
  subst hn hn'
  have H := Lib.hid (h.more hB)
  have H' := Lib.hid (h'.more hB')
  clear h h' hB hB'
  go_enter Try.func32, Try.ntmps32
  go_wp2
  go_loopw [5] (fun i wr => ∃ k : Nat, i = .int .i64 k ∧ k ≤ l.length ∧ Below w.heap.size w wr) (fun i _ => l.length - (intOf i).toNat)
  case atStart => exact ⟨0, rfl, Nat.zero_le _, Below.refl _ _⟩
  case round =>
    obtain ⟨k, rfl, hk, hb⟩ := hrel
    have Hb := Lib.hid hb
    by_cases hlt : k < l.length
    · obtain ⟨g, o, rfl, -, z0, z1, z2, z3, z4, z5, z6⟩ := row_hd7 (H.out.below hb) k hlt
      obtain ⟨g', o', rfl, -, y0, y1, y2, y3, y4, y5, y6⟩ := row_hd7 (H'.out.below hb) k hlt
      have hkl : (k : Int) < (l.length : Int) := by omega
      clear hb
      generalize l[k] = x at *
      obtain ⟨x1, x2, x3, x4, x5, x6, x7⟩ := x
      simp only at z0 z1 z2 z3 z4 z5 z6 y0 y1 y2 y3 y4 y5 y6
      go_wp2
      go_quiet (fail)
      go_wp2
      go_roundw
      case measure => simp [intOf]; omega
      case rel => exact ⟨k + 1, by go_num, hlt, below_drewN Hb.out _⟩
    · have hkk : k = l.length := by omega
      subst hkk
      clear hb
      go_wp2
      go_ret
      exact ⟨rfl, Hb.out⟩

end Go.Proofs.Ytfpjkeddcagfcaa
