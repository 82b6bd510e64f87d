/-
  Layer 14: an exchange in memory; a new one; what it says; one that begins, in the example.
-/
import Derived.Test.YtbffhdlfplgccaaExSide
import Derived.Laws.BitsLemmas
namespace Go.Proofs.Ytbffhdlfplgccaa
open Go.RowKit Go.Sort

/-- an exchange's cells: who, with whom, its number, agreed, leads, done, what it took last, what it said last, its summary -/
def exA (a b n : Int) (ag ld dn l1 l2 l3 : Bool) (l4 : Int) (s1 s2 s3 : Bool) (s4 : Int) (hv p : Value) : Array Value := #[.int .i64 a, .int .i64 b, .int .i64 n, .bool ag, .bool ld, .bool dn, .bool l1, .bool l2, .bool l3, .int .i64 l4, .bool s1, .bool s2, .bool s3, .int .i64 s4, hv, p]
theorem blk16 {w : World} {g : Nat} {t : TypeId} {x0 x1 x2 x3 x4 x5 x6 x7 x8 x9 xa xb xc xd xe xf : Value} (h : Blk w g t #[x0, x1, x2, x3, x4, x5, x6, x7, x8, x9, xa, xb, xc, xd, xe, xf]) : w.cell? ⟨g, 0, none⟩ = some x0 ∧ w.cell? ⟨g, 1, none⟩ = some x1 ∧ w.cell? ⟨g, 2, none⟩ = some x2 ∧ w.cell? ⟨g, 3, none⟩ = some x3 ∧ w.cell? ⟨g, 4, none⟩ = some x4 ∧ w.cell? ⟨g, 5, none⟩ = some x5 ∧ w.cell? ⟨g, 6, none⟩ = some x6 ∧ w.cell? ⟨g, 7, none⟩ = some x7 ∧ w.cell? ⟨g, 8, none⟩ = some x8 ∧ w.cell? ⟨g, 9, none⟩ = some x9 ∧ w.cell? ⟨g, 10, none⟩ = some xa ∧ w.cell? ⟨g, 11, none⟩ = some xb ∧ w.cell? ⟨g, 12, none⟩ = some xc ∧ w.cell? ⟨g, 13, none⟩ = some xd ∧ w.cell? ⟨g, 14, none⟩ = some xe ∧ w.cell? ⟨g, 15, none⟩ = some xf :=
  ⟨h.cell 0, h.cell 1, h.cell 2, h.cell 3, h.cell 4, h.cell 5, h.cell 6, h.cell 7, h.cell 8, h.cell 9, h.cell 10, h.cell 11, h.cell 12, h.cell 13, h.cell 14, h.cell 15⟩
theorem blk5 {w : World} {g : Nat} {t : TypeId} {x0 x1 x2 x3 x4 : Value} (h : Blk w g t #[x0, x1, x2, x3, x4]) : w.cell? ⟨g, 0, none⟩ = some x0 ∧ w.cell? ⟨g, 1, none⟩ = some x1 ∧ w.cell? ⟨g, 2, none⟩ = some x2 ∧ w.cell? ⟨g, 3, none⟩ = some x3 ∧ w.cell? ⟨g, 4, none⟩ = some x4 :=
  ⟨h.cell 0, h.cell 1, h.cell 2, h.cell 3, h.cell 4⟩
/-- the low half of a number -/
theorem and32 (x : Int) : bits .and .i64 x 4294967295 = x % 4294967296 := by
  simp only [bits, BitVec.toNat_and, BitVec.toNat_ofInt]
  rw [IntKind.wrap_i64]
  have h1 : (4294967295 % ((2 ^ IntKind.i64.bits : Nat) : Int)).toNat = 2 ^ 32 - 1 := by decide
  rw [h1, Nat.and_two_pow_sub_one_eq_mod]
  have h2 : ((2 ^ IntKind.i64.bits : Nat) : Int) = 18446744073709551616 := by decide
  rw [h2]
  omega
set_option maxHeartbeats 1000000 in
theorem exNew (a b n : Int) (w : World) : Calls Try.prog 75 #[.int .i64 a, .int .i64 b, .int .i64 n] w fun r w' => r = .returned (.pointer (some ⟨w.heap.size, 0, none⟩)) ∧ w' = w.alloc (.cells (exA a b (n % 4294967296) false false false false false false 0 true true true (n % 4294967296) (.slice none 0 0) (.pointer none)) 120) := by
  have hand := and32 n
  go_enter Try.func75, Try.ntmps75
  go_wp2
  go_ret
  exact ⟨rfl, rfl⟩
theorem gr_trans {a b c : World} {row : Option Nat} (h : a.grownBy b row) (k : b.grownBy c row) : a.grownBy c row :=
  ⟨k.os.trans h.os, k.tape.trans h.tape, k.output.trans h.output, Nat.le_trans h.size k.size, fun i hi hne => (k.block i (Nat.lt_of_lt_of_le hi h.size) hne).trans (h.block i hi hne)⟩
theorem gr_below {w w' : World} {row : Option Nat} (h : Below w.heap.size w w') : w.grownBy w' row := ⟨h.os, h.tape, h.output, h.size, fun k hk _ => h.block k hk⟩
theorem gr_set {w w' : World} {p : Nat} (h : w.grownBy w' (some p)) (i : Nat) (u : Value) : w.grownBy (w'.setCell ⟨p, i, none⟩ u) (some p) := gr_trans h (grown_set w' p i u)
set_option maxHeartbeats 4000000 in
set_option maxRecDepth 100000 in
theorem say_w (p s : Nat) (v : Value) (a b n : Int) (l1 l2 l3 : Bool) (l4 : Int) (s1 s2 s3 : Bool) (s4 : Int) (hv : Value) (w : World) (hs : SmAt w s v 0 []) (hp : Blk w p 120 (exA a b n true false false l1 l2 l3 l4 s1 s2 s3 s4 hv (.pointer (some ⟨s, 0, none⟩)))) :
    Calls Try.prog 113 #[.pointer (some ⟨p, 0, none⟩)] w fun r w' => r = .returned (.tuple #[]) ∧ Blk w' p 120 (exA a b n true false false l1 l2 l3 l4 false false false n (.slice none 0 0) (.pointer (some ⟨s, 0, none⟩))) ∧ w.grownBy w' (some p) := by
  have HP := Lib.hid hp
  have CM := Lib.hid (fun dd os => Calls.regrown_of (w := w) (d := dd) (os := os) (SuMore_none s v _ (hs.keep (below_regrown w dd os))))
  have CP := Lib.hid (fun dd os => Calls.regrown_of (w := w) (d := dd) (os := os) (SuPiece_none s v _ (hs.keep (below_regrown w dd os))))
  obtain ⟨x0, x1, x2, x3, x4, x5, x6, x7, x8, x9, xa, xb, xc, xd, xe, xf⟩ := blk16 hp
  have x2 := cell_regrown x2
  have x4 := cell_regrown x4
  have xf := cell_regrown xf
  clear hs hp x0 x1 x3 x5 x6 x7 x8 x9 xa xb xc xd xe
  go_enter Try.func113, Try.ntmps113
  go_wp2_with fail
  refine wp_below_tail 22 (by kernel_rfl) (by kernel_rfl) ?_
  simp only [List.take_succ_cons, List.take_zero, List.drop_succ_cons, List.drop_zero]
  repeat (go_big_quiet_step (first | exact CM.out _ _ | exact CP.out _ _))
  refine wpQuiet_nil ?_
  rintro w3 ⟨⟨dq, osq⟩, hw3⟩
  have hb3 := below_regrown w dq osq
  rw [← hw3] at hb3
  clear hw3 x2 x4 xf CM CP
  have hp3 := HP.out.below hb3 HP.out.lt
  have HP3 := Lib.hid hp3
  have Hb3 := Lib.hid (gr_below (row := some p) hb3)
  obtain ⟨x0, x1, x2, x3, x4, x5, x6, x7, x8, x9, xa, xb, xc, xd, xe, xf⟩ := blk16 hp3
  have hfz := fun i => hp3.frozen i
  clear hb3 hp3
  go_wp2
  refine bodyPost_end (results_none rfl _ _ _) rfl ?_
  have hset := ((((HP3.out.set_ 10 (.bool false)).set_ 11 (.bool false)).set_ 12 (.bool false)).set_ 13 (.int .i64 n)).set_ 14 (.slice none 0 0)
  exact ⟨rfl, by simpa [exA] using hset, gr_set (gr_set (gr_set (gr_set (gr_set Hb3.out 10 _) 11 _) 12 _) 13 _) 14 _⟩

theorem SmAt.set_far {W : World} {s : Nat} {v : Value} {at_ : Int} {H : List Hd} (h : SmAt W s v at_ H) {p : Nat} (hp : p < s) (i : Nat) (u : Value) : SmAt (W.setCell ⟨p, i, none⟩ u) s v at_ H :=
  ⟨h.ptr.grown (grown_set W p i u) (fun e => by injection e with e; omega), h.own.set_ (by show p < s + 1; omega) u⟩
set_option maxHeartbeats 8000000 in
set_option maxRecDepth 100000 in
/-- an exchange of 1 with 2 takes the first piece: it follows -/
theorem begin_w (p : Nat) (w : World) (hp : Blk w p 120 (exA 1 2 5 false false false false false false 0 true true true 5 (.slice none 0 0) (.pointer none))) :
    Calls Try.prog 77 #[.pointer (some ⟨p, 0, none⟩), .agg #[.bool true, .bool true, .bool true, .int .i64 9, .slice none 0 0], .slice none 0 0] w fun r w' => r = .returned (.int .i64 2) ∧ (∃ s, Blk w' p 120 (exA 1 2 9 true false false false false false 0 false false false 9 (.slice none 0 0) (.pointer (some ⟨s, 0, none⟩)))) ∧ w.grownBy w' (some p) := by
  obtain ⟨w1, hw1⟩ : ∃ w1, w.alloc (.cells #[.bool true, .bool true, .bool true, .int .i64 9, .slice none 0 0] 66) = w1 := ⟨_, rfl⟩
  obtain ⟨g1, hg1⟩ : ∃ g1, w.heap.size = g1 := ⟨_, rfl⟩
  have hd := Blk.new w 66 #[.bool true, .bool true, .bool true, .int .i64 9, .slice none 0 0]
  have hb1 := below_new w (.cells #[.bool true, .bool true, .bool true, .int .i64 9, .slice none 0 0] 66)
  rw [hw1, hg1] at hd
  rw [hw1] at hb1
  have HP1 := Lib.hid (hp.below hb1 hp.lt)
  have Hb1 := Lib.hid (gr_below (row := some p) hb1)
  have Hpg := Lib.hid (show p ≠ g1 from by have := hp.lt; omega)
  have HD := Lib.hid hd
  obtain ⟨x0, x1, x2, x3, x4, x5, x6, x7, x8, x9, xa, xb, xc, xd, xe, xf⟩ := blk16 HP1.out
  obtain ⟨d0, d1, d2, d3, d4⟩ := blk5 hd
  clear hp hb1 hd
  go_enter Try.func77, Try.ntmps77
  go_wp2
  go_quiet (fail)
  have hb2 := below_drewN (Below.refl w1.heap.size w1) nq
  obtain ⟨w2, hw2⟩ : ∃ w2, w1.drewN nq = w2 := ⟨_, rfl⟩
  rw [hw2] at hb2 ⊢
  have HP2 := Lib.hid (HP1.out.below hb2 HP1.out.lt)
  have Hb2 := Lib.hid (gr_trans Hb1.out (gr_below hb2))
  have hd2 := HD.out.below hb2 HD.out.lt
  clear x0 x1 x2 x3 x4 x5 x6 x7 x8 x9 xa xb xc xd xe xf d0 d1 d2 d3 d4 hb2 hw2
  obtain ⟨x0, x1, x2, x3, x4, x5, x6, x7, x8, x9, xa, xb, xc, xd, xe, xf⟩ := blk16 HP2.out
  obtain ⟨d0, d1, d2, d3, d4⟩ := blk5 hd2
  have hfz := fun i => HP2.out.frozen i
  clear hd2
  go_wp2_with fail
  have hp3 : Blk (w2.setCell ⟨p, 2, none⟩ (.int .i64 9)) p 120 (exA 1 2 9 false false false false false false 0 true true true 5 (.slice none 0 0) (.pointer none)) := by simpa [exA] using HP2.out.set_ 2 (.int .i64 9)
  have HP3 := Lib.hid hp3
  have Hb3 := Lib.hid (gr_set Hb2.out 2 (.int .i64 9))
  clear x0 x1 x2 x3 x4 x5 x6 x7 x8 x9 xa xb xc xd xe xf d0 d1 d2 d3 d4 hp3 hfz
  with_reducible refine Calls.mono (SuNew_none _) ?_
  rintro r w4 ⟨rfl, ⟨v4, hs4⟩, hb4⟩
  obtain ⟨s4, hs4e⟩ : ∃ s4, (w2.setCell ⟨p, 2, none⟩ (.int .i64 9)).heap.size = s4 := ⟨_, rfl⟩
  rw [hs4e] at hs4 ⊢
  have hp4 := HP3.out.below hb4 HP3.out.lt
  have HP4 := Lib.hid hp4
  have Hps := Lib.hid (show p < s4 from by have := HP3.out.lt; omega)
  have Hs4 := Lib.hid hs4
  have Hb4 := Lib.hid (gr_trans Hb3.out (gr_below hb4))
  obtain ⟨x0, x1, x2, x3, x4, x5, x6, x7, x8, x9, xa, xb, xc, xd, xe, xf⟩ := blk16 hp4
  have hfz := fun i => hp4.frozen i
  clear hp4 hs4 hb4 hs4e
  go_wp2_with fail
  have hp5 : Blk ((w4.setCell ⟨p, 3, none⟩ (.bool true)).setCell ⟨p, 15, none⟩ (.pointer (some ⟨s4, 0, none⟩))) p 120 (exA 1 2 9 true false false false false false 0 true true true 5 (.slice none 0 0) (.pointer (some ⟨s4, 0, none⟩))) := by simpa [exA] using (HP4.out.set_ 3 (.bool true)).set_ 15 (.pointer (some ⟨s4, 0, none⟩))
  have HSay := Lib.hid (say_w p s4 v4 1 2 9 false false false 0 true true true 5 (.slice none 0 0) _ ((Hs4.out.set_far Hps.out 3 (.bool true)).set_far Hps.out 15 (.pointer (some ⟨s4, 0, none⟩))) hp5)
  have Hb5 := Lib.hid (gr_set (gr_set Hb4.out 3 (.bool true)) 15 (.pointer (some ⟨s4, 0, none⟩)))
  clear hp5 hfz x0 x1 x2 x3 x4 x5 x6 x7 x8 x9 xa xb xc xd xe xf
  with_reducible refine Calls.mono HSay.out ?_
  rintro r w6 ⟨rfl, hp6, hb6⟩
  have HP6 := Lib.hid hp6
  have Hb6 := Lib.hid (gr_trans Hb5.out hb6)
  clear hp6 hb6
  go_wp2
  go_ret
  exact ⟨rfl, ⟨s4, HP6.out⟩, Hb6.out⟩

end Go.Proofs.Ytbffhdlfplgccaa
