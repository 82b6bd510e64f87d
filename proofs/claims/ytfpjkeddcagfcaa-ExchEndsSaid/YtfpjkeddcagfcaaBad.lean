/-
  Layer 14: an exchange in memory; a new one; what it says; one that begins, in the example.
-/
import Derived.Laws.BitsLemmas
import Derived.Test.YtfpjkeddcagfcaaBaa
import Derived.Test.YtfpjkeddcagfcaaBab
import Derived.Test.YtfpjkeddcagfcaaBac
namespace Go.Proofs.Ytfpjkeddcagfcaa
open Go.RowKit Go.Sort

/-- an exchange's cells: who, with whom, its number, agreed, leads, done, what it took last, what it said last, its summary -/
def exA (a b n : Int) (ag ld dn l1 l2 l3 : Bool) (l4 : Int) (s1 s2 s3 : Bool) (s4 : Int) (hv p : Value) : Array Value := #[.int .i64 a, .int .i64 b, .int .i64 n, .bool ag, .bool ld, .bool dn, .bool l1, .bool l2, .bool l3, .int .i64 l4, .bool s1, .bool s2, .bool s3, .int .i64 s4, hv, p]
theorem blk16 {w : World} {g : Nat} {t : TypeId} {x0 x1 x2 x3 x4 x5 x6 x7 x8 x9 xa xb xc xd xe xf : Value} (h : Blk w g t #[x0, x1, x2, x3, x4, x5, x6, x7, x8, x9, xa, xb, xc, xd, xe, xf]) : w.cell? ⟨g, 0, none⟩ = some x0 ∧ w.cell? ⟨g, 1, none⟩ = some x1 ∧ w.cell? ⟨g, 2, none⟩ = some x2 ∧ w.cell? ⟨g, 3, none⟩ = some x3 ∧ w.cell? ⟨g, 4, none⟩ = some x4 ∧ w.cell? ⟨g, 5, none⟩ = some x5 ∧ w.cell? ⟨g, 6, none⟩ = some x6 ∧ w.cell? ⟨g, 7, none⟩ = some x7 ∧ w.cell? ⟨g, 8, none⟩ = some x8 ∧ w.cell? ⟨g, 9, none⟩ = some x9 ∧ w.cell? ⟨g, 10, none⟩ = some xa ∧ w.cell? ⟨g, 11, none⟩ = some xb ∧ w.cell? ⟨g, 12, none⟩ = some xc ∧ w.cell? ⟨g, 13, none⟩ = some xd ∧ w.cell? ⟨g, 14, none⟩ = some xe ∧ w.cell? ⟨g, 15, none⟩ = some xf :=
  ⟨h.cell 0, h.cell 1, h.cell 2, h.cell 3, h.cell 4, h.cell 5, h.cell 6, h.cell 7, h.cell 8, h.cell 9, h.cell 10, h.cell 11, h.cell 12, h.cell 13, h.cell 14, h.cell 15⟩
theorem blk5 {w : World} {g : Nat} {t : TypeId} {x0 x1 x2 x3 x4 : Value} (h : Blk w g t #[x0, x1, x2, x3, x4]) : w.cell? ⟨g, 0, none⟩ = some x0 ∧ w.cell? ⟨g, 1, none⟩ = some x1 ∧ w.cell? ⟨g, 2, none⟩ = some x2 ∧ w.cell? ⟨g, 3, none⟩ = some x3 ∧ w.cell? ⟨g, 4, none⟩ = some x4 :=
  ⟨h.cell 0, h.cell 1, h.cell 2, h.cell 3, h.cell 4⟩
/-- the low half of a number -/
theorem and32 (x : Int) : bits .and .i64 x 4294967295 = x % 4294967296 := by
  simp only [bits, BitVec.toNat_and, BitVec.toNat_ofInt]
  rw [IntKind.wrap_i64]
  have h1 : (4294967295 % ((2 ^ IntKind.i64.bits : Nat) : Int)).toNat = 2 ^ 32 - 1 := by decide
  rw [h1, Nat.and_two_pow_sub_one_eq_mod]
  have h2 : ((2 ^ IntKind.i64.bits : Nat) : Int) = 18446744073709551616 := by decide
  rw [h2]
  omega
set_option maxHeartbeats 1000000 in
theorem exNew (a b n : Int) (w : World) : Calls Try.prog 8 #[.int .i64 a, .int .i64 b, .int .i64 n] w fun r w' => r = .returned (.pointer (some ⟨w.heap.size, 0, none⟩)) ∧ w' = w.alloc (.cells (exA a b (n % 4294967296) false false false false false false 0 true true true (n % 4294967296) (.slice none 0 0) (.pointer none)) 65) := by
  have hand := and32 n
  go_enter Try.func8, Try.ntmps8
  go_wp2
  go_ret
  exact ⟨rfl, rfl⟩
theorem gr_trans {a b c : World} {row : Option Nat} (h : a.grownBy b row) (k : b.grownBy c row) : a.grownBy c row :=
  ⟨k.os.trans h.os, k.tape.trans h.tape, k.output.trans h.output, Nat.le_trans h.size k.size, fun i hi hne => (k.block i (Nat.lt_of_lt_of_le hi h.size) hne).trans (h.block i hi hne)⟩
theorem gr_below {w w' : World} {row : Option Nat} (h : Below w.heap.size w w') : w.grownBy w' row := ⟨h.os, h.tape, h.output, h.size, fun k hk _ => h.block k hk⟩
theorem gr_set {w w' : World} {p : Nat} (h : w.grownBy w' (some p)) (i : Nat) (u : Value) : w.grownBy (w'.setCell ⟨p, i, none⟩ u) (some p) := gr_trans h (grown_set w' p i u)
set_option maxHeartbeats 4000000 in
set_option maxRecDepth 100000 in
theorem say_w (p s : Nat) (v : Value) (a b n : Int) (l1 l2 l3 : Bool) (l4 : Int) (s1 s2 s3 : Bool) (s4 : Int) (hv : Value) (w : World) (hs : SmAt w s v 0 []) (hp : Blk w p 65 (exA a b n true false false l1 l2 l3 l4 s1 s2 s3 s4 hv (.pointer (some ⟨s, 0, none⟩)))) :
    Calls Try.prog 35 #[.pointer (some ⟨p, 0, none⟩)] w fun r w' => r = .returned (.tuple #[]) ∧ Blk w' p 65 (exA a b n true false false l1 l2 l3 l4 false false false n (.slice none 0 0) (.pointer (some ⟨s, 0, none⟩))) ∧ w.grownBy w' (some p) := by
  have HP := Lib.hid hp
  have CM := Lib.hid (fun dd os => Calls.regrown_of (w := w) (d := dd) (os := os) (SuMore_none s v _ (hs.keep (below_regrown w dd os))))
  have CP := Lib.hid (fun dd os => Calls.regrown_of (w := w) (d := dd) (os := os) (SuPiece_none s v _ (hs.keep (below_regrown w dd os))))
  obtain ⟨x0, x1, x2, x3, x4, x5, x6, x7, x8, x9, xa, xb, xc, xd, xe, xf⟩ := blk16 hp
  have x2 := cell_regrown x2
  have x4 := cell_regrown x4
  have xf := cell_regrown xf
  clear hs hp x0 x1 x3 x5 x6 x7 x8 x9 xa xb xc xd xe
  go_enter Try.func35, Try.ntmps35
  go_wp2_with fail
  refine wp_below_tail 22 (by kernel_rfl) (by kernel_rfl) ?_
  simp only [List.take_succ_cons, List.take_zero, List.drop_succ_cons, List.drop_zero]
  repeat (go_big_quiet_step (first | exact CM.out _ _ | exact CP.out _ _))
  refine wpQuiet_nil ?_
  rintro w3 ⟨⟨dq, osq⟩, hw3⟩
  have hb3 := below_regrown w dq osq
  rw [← hw3] at hb3
  clear hw3 x2 x4 xf CM CP
  have hp3 := HP.out.below hb3 HP.out.lt
  have HP3 := Lib.hid hp3
  have Hb3 := Lib.hid (gr_below (row := some p) hb3)
  obtain ⟨x0, x1, x2, x3, x4, x5, x6, x7, x8, x9, xa, xb, xc, xd, xe, xf⟩ := blk16 hp3
  have hfz := fun i => hp3.frozen i
  clear hb3 hp3
  go_wp2
  refine bodyPost_end (results_none rfl _ _ _) rfl ?_
  have hset := ((((HP3.out.set_ 10 (.bool false)).set_ 11 (.bool false)).set_ 12 (.bool false)).set_ 13 (.int .i64 n)).set_ 14 (.slice none 0 0)
  exact ⟨rfl, by simpa [exA] using hset, gr_set (gr_set (gr_set (gr_set (gr_set Hb3.out 10 _) 11 _) 12 _) 13 _) 14 _⟩

theorem SmAt.set_far {W : World} {s : Nat} {v : Value} {at_ : Int} {H : List Hd} (h : SmAt W s v at_ H) {p : Nat} (hp : p < s) (i : Nat) (u : Value) : SmAt (W.setCell ⟨p, i, none⟩ u) s v at_ H :=
  ⟨h.ptr.grown (grown_set W p i u) (fun e => by injection e with e; omega), h.own.set_ (by show p < s + 1; omega) u⟩
set_option maxHeartbeats 8000000 in
set_option maxRecDepth 100000 in
/-- an exchange of 1 with 2 takes the first piece: it follows -/
theorem begin_w (p : Nat) (w : World) (hp : Blk w p 65 (exA 1 2 5 false false false false false false 0 true true true 5 (.slice none 0 0) (.pointer none))) :
    Calls Try.prog 24 #[.pointer (some ⟨p, 0, none⟩), .agg #[.bool true, .bool true, .bool true, .int .i64 9, .slice none 0 0], .slice none 0 0] w fun r w' => r = .returned (.int .i64 2) ∧ (∃ s, Blk w' p 65 (exA 1 2 9 true false false false false false 0 false false false 9 (.slice none 0 0) (.pointer (some ⟨s, 0, none⟩)))) ∧ w.grownBy w' (some p) := by
  obtain ⟨w1, hw1⟩ : ∃ w1, w.alloc (.cells #[.bool true, .bool true, .bool true, .int .i64 9, .slice none 0 0] 33) = w1 := ⟨_, rfl⟩
  obtain ⟨g1, hg1⟩ : ∃ g1, w.heap.size = g1 := ⟨_, rfl⟩
  have hd := Blk.new w 33 #[.bool true, .bool true, .bool true, .int .i64 9, .slice none 0 0]
  have hb1 := below_new w (.cells #[.bool true, .bool true, .bool true, .int .i64 9, .slice none 0 0] 33)
  rw [hw1, hg1] at hd
  rw [hw1] at hb1
  have HP1 := Lib.hid (hp.below hb1 hp.lt)
  have Hb1 := Lib.hid (gr_below (row := some p) hb1)
  have Hpg := Lib.hid (show p ≠ g1 from by have := hp.lt; omega)
  have HD := Lib.hid hd
  obtain ⟨x0, x1, x2, x3, x4, x5, x6, x7, x8, x9, xa, xb, xc, xd, xe, xf⟩ := blk16 HP1.out
  obtain ⟨d0, d1, d2, d3, d4⟩ := blk5 hd
  clear hp hb1 hd
  go_enter Try.func24, Try.ntmps24
  go_wp2
  go_quiet (fail)
  have hb2 := below_drewN (Below.refl w1.heap.size w1) nq
  obtain ⟨w2, hw2⟩ : ∃ w2, w1.drewN nq = w2 := ⟨_, rfl⟩
  rw [hw2] at hb2 ⊢
  have HP2 := Lib.hid (HP1.out.below hb2 HP1.out.lt)
  have Hb2 := Lib.hid (gr_trans Hb1.out (gr_below hb2))
  have hd2 := HD.out.below hb2 HD.out.lt
  clear x0 x1 x2 x3 x4 x5 x6 x7 x8 x9 xa xb xc xd xe xf d0 d1 d2 d3 d4 hb2 hw2
  obtain ⟨x0, x1, x2, x3, x4, x5, x6, x7, x8, x9, xa, xb, xc, xd, xe, xf⟩ := blk16 HP2.out
  obtain ⟨d0, d1, d2, d3, d4⟩ := blk5 hd2
  have hfz := fun i => HP2.out.frozen i
  clear hd2
  go_wp2_with fail
  have hp3 : Blk (w2.setCell ⟨p, 2, none⟩ (.int .i64 9)) p 65 (exA 1 2 9 false false false false false false 0 true true true 5 (.slice none 0 0) (.pointer none)) := by simpa [exA] using HP2.out.set_ 2 (.int .i64 9)
  have HP3 := Lib.hid hp3
  have Hb3 := Lib.hid (gr_set Hb2.out 2 (.int .i64 9))
  clear x0 x1 x2 x3 x4 x5 x6 x7 x8 x9 xa xb xc xd xe xf d0 d1 d2 d3 d4 hp3 hfz
  with_reducible refine Calls.mono (SuNew_none _) ?_
  rintro r w4 ⟨rfl, ⟨v4, hs4⟩, hb4⟩
  obtain ⟨s4, hs4e⟩ : ∃ s4, (w2.setCell ⟨p, 2, none⟩ (.int .i64 9)).heap.size = s4 := ⟨_, rfl⟩
  rw [hs4e] at hs4 ⊢
  have hp4 := HP3.out.below hb4 HP3.out.lt
  have HP4 := Lib.hid hp4
  have Hps := Lib.hid (show p < s4 from by have := HP3.out.lt; omega)
  have Hs4 := Lib.hid hs4
  have Hb4 := Lib.hid (gr_trans Hb3.out (gr_below hb4))
  obtain ⟨x0, x1, x2, x3, x4, x5, x6, x7, x8, x9, xa, xb, xc, xd, xe, xf⟩ := blk16 hp4
  have hfz := fun i => hp4.frozen i
  clear hp4 hs4 hb4 hs4e
  go_wp2_with fail
  have hp5 : Blk ((w4.setCell ⟨p, 3, none⟩ (.bool true)).setCell ⟨p, 15, none⟩ (.pointer (some ⟨s4, 0, none⟩))) p 65 (exA 1 2 9 true false false false false false 0 true true true 5 (.slice none 0 0) (.pointer (some ⟨s4, 0, none⟩))) := by simpa [exA] using (HP4.out.set_ 3 (.bool true)).set_ 15 (.pointer (some ⟨s4, 0, none⟩))
  have HSay := Lib.hid (say_w p s4 v4 1 2 9 false false false 0 true true true 5 (.slice none 0 0) _ ((Hs4.out.set_far Hps.out 3 (.bool true)).set_far Hps.out 15 (.pointer (some ⟨s4, 0, none⟩))) hp5)
  have Hb5 := Lib.hid (gr_set (gr_set Hb4.out 3 (.bool true)) 15 (.pointer (some ⟨s4, 0, none⟩)))
  clear hp5 hfz x0 x1 x2 x3 x4 x5 x6 x7 x8 x9 xa xb xc xd xe xf
  with_reducible refine Calls.mono HSay.out ?_
  rintro r w6 ⟨rfl, hp6, hb6⟩
  have HP6 := Lib.hid hp6
  have Hb6 := Lib.hid (gr_trans Hb5.out hb6)
  clear hp6 hb6
  go_wp2
  go_ret
  exact ⟨rfl, ⟨s4, HP6.out⟩, Hb6.out⟩

end Go.Proofs.Ytfpjkeddcagfcaa

/-
  A row of heads: a cell, or a head, of it set.
-/
namespace Go.Proofs.Ytfpjkeddcagfcaa
open Go.RowKit

theorem set_flatH13 (l : List Hd) (k : Nat) (c : Hd) (hk : k < l.length) :
    (l.set k c).flatMap Hd.cells = (((((((l.flatMap Hd.cells).set (k * 7) (.int .i64 c.age)).set (k * 7 + 1) (.int .i64 c.kind)).set (k * 7 + 2) (.int .i64 c.id)).set (k * 7 + 3) (.int .i64 c.adv)).set (k * 7 + 4) (.int .i64 c.seq)).set (k * 7 + 5) (.int .i64 c.sum)).set (k * 7 + 6) (.int .i64 c.long) := by
  induction l generalizing k with
  | nil => simp at hk
  | cons d l ih =>
    cases k with
    | zero => simp [Hd.cells]
    | succ k =>
      have h := ih k (by simpa using hk)
      simp only [List.set_cons_succ, List.flatMap_cons, h]
      have h4 : d.cells.length = 7 := rfl
      rw [List.set_append_right _ _ (by omega), List.set_append_right _ _ (by omega), List.set_append_right _ _ (by omega), List.set_append_right _ _ (by omega), List.set_append_right _ _ (by omega), List.set_append_right _ _ (by omega), List.set_append_right _ _ (by omega)]
      simp only [h4, show (k + 1) * 7 - 7 = k * 7 by omega, show (k + 1) * 7 + 1 - 7 = k * 7 + 1 by omega, show (k + 1) * 7 + 2 - 7 = k * 7 + 2 by omega, show (k + 1) * 7 + 3 - 7 = k * 7 + 3 by omega, show (k + 1) * 7 + 4 - 7 = k * 7 + 4 by omega, show (k + 1) * 7 + 5 - 7 = k * 7 + 5 by omega, show (k + 1) * 7 + 6 - 7 = k * 7 + 6 by omega]
section
variable {w : World} {B g cap n : Nat} {l : List Hd}
theorem OwnH13.set7 (h : OwnR 56 7 Hd.cells w B (.slice (some ⟨g, 0, none⟩) n cap) l) (hn : n = l.length) (k : Nat) (hk : k < l.length) (c : Hd) :
    OwnR 56 7 Hd.cells (((((((w.setCell ⟨g, k * 7, none⟩ (.int .i64 c.age)).setCell ⟨g, k * 7 + 1, none⟩ (.int .i64 c.kind)).setCell ⟨g, k * 7 + 2, none⟩ (.int .i64 c.id)).setCell ⟨g, k * 7 + 3, none⟩ (.int .i64 c.adv)).setCell ⟨g, k * 7 + 4, none⟩ (.int .i64 c.seq)).setCell ⟨g, k * 7 + 5, none⟩ (.int .i64 c.sum)).setCell ⟨g, k * 7 + 6, none⟩ (.int .i64 c.long)) B (.slice (some ⟨g, 0, none⟩) n cap) (l.set k c) := by
  subst hn
  unfold OwnR
  rw [set_flatH13 l k c hk, List.length_set]
  exact (((((((World.ownsRow.stored h (k * 7) (.int .i64 c.age)).1.stored (k * 7 + 1) (.int .i64 c.kind)).1.stored (k * 7 + 2) (.int .i64 c.id)).1.stored (k * 7 + 3) (.int .i64 c.adv)).1.stored (k * 7 + 4) (.int .i64 c.seq)).1.stored (k * 7 + 5) (.int .i64 c.sum)).1.stored (k * 7 + 6) (.int .i64 c.long)).1

end
section
variable {w w' : World} {B g cap n : Nat} {l : List Hd} {v0 : Value}
theorem OwnH13.frozen (h : OwnR 56 7 Hd.cells w B (.slice (some ⟨g, 0, none⟩) n cap) l) (i : Nat) : w.frozen? ⟨g, i, none⟩ = false := by
  rcases h.2 with ⟨hv, -⟩ | ⟨g', cap', cur, hv, -, hb, -⟩
  · cases hv
  · simp only [Value.slice.injEq, Option.some.injEq, Addr.mk.injEq, and_true] at hv
    obtain ⟨rfl, -, -⟩ := hv
    simp [World.frozen?, hb]
theorem grown7 (w : World) (g o : Nat) (a b c d e f x : Value) : w.grownBy (((((((w.setCell ⟨g, o, none⟩ a).setCell ⟨g, o + 1, none⟩ b).setCell ⟨g, o + 2, none⟩ c).setCell ⟨g, o + 3, none⟩ d).setCell ⟨g, o + 4, none⟩ e).setCell ⟨g, o + 5, none⟩ f).setCell ⟨g, o + 6, none⟩ x) (some g) :=
  (((((((World.grownBy.refl w (some g)).set rfl _).set rfl _).set rfl _).set rfl _).set rfl _).set rfl _).set rfl _
theorem below_set7k (h : Below B w w') (hg : B ≤ g) (o : Nat) (a b c d e f x : Value) : Below B w (((((((w'.setCell ⟨g, o, none⟩ a).setCell ⟨g, o + 1, none⟩ b).setCell ⟨g, o + 2, none⟩ c).setCell ⟨g, o + 3, none⟩ d).setCell ⟨g, o + 4, none⟩ e).setCell ⟨g, o + 5, none⟩ f).setCell ⟨g, o + 6, none⟩ x) :=
  ((((((h.setCell hg _).setCell hg _).setCell hg _).setCell hg _).setCell hg _).setCell hg _).setCell hg _
theorem row_own7 (h : OwnR 56 7 Hd.cells w B v0 l) (k : Nat) (hk : k < l.length) : ∃ g c, v0 = .slice (some ⟨g, 0, none⟩) l.length c ∧ w.cell? ⟨g, k * 7, none⟩ = some (.int .i64 l[k].age) ∧ w.cell? ⟨g, k * 7 + 1, none⟩ = some (.int .i64 l[k].kind) ∧ w.cell? ⟨g, k * 7 + 2, none⟩ = some (.int .i64 l[k].id) ∧ w.cell? ⟨g, k * 7 + 3, none⟩ = some (.int .i64 l[k].adv) ∧ w.cell? ⟨g, k * 7 + 4, none⟩ = some (.int .i64 l[k].seq) ∧ w.cell? ⟨g, k * 7 + 5, none⟩ = some (.int .i64 l[k].sum) ∧ w.cell? ⟨g, k * 7 + 6, none⟩ = some (.int .i64 l[k].long) := by
  rcases h.shape2 with ⟨-, hn⟩ | ⟨g, c, rfl, hc⟩
  · subst hn; simp at hk
  · obtain ⟨b, o, e, -, hcl⟩ := (OwnR.rows (C := 7) (cells := Hd.cells) (fun _ => rfl) h).2 (by omega)
    injection e with e
    injection e with e1 e2
    subst e1 e2
    have z := fun i u hi hu => hcl k hk i u hi hu
    simp only [Nat.zero_add] at z
    exact ⟨g, c, rfl, by simpa using z 0 _ (by omega) rfl, z 1 _ (by omega) rfl, z 2 _ (by omega) rfl, z 3 _ (by omega) rfl, z 4 _ (by omega) rfl, z 5 _ (by omega) rfl, z 6 _ (by omega) rfl⟩
theorem row_hd7 {A : Option Addr} (h : RowsAt 7 Hd.cells w B A l) (k : Nat) (hk : k < l.length) : ∃ b o, A = some ⟨b, o, none⟩ ∧ b < B ∧ w.cell? ⟨b, o + k * 7, none⟩ = some (.int .i64 l[k].age) ∧ w.cell? ⟨b, o + k * 7 + 1, none⟩ = some (.int .i64 l[k].kind) ∧ w.cell? ⟨b, o + k * 7 + 2, none⟩ = some (.int .i64 l[k].id) ∧ w.cell? ⟨b, o + k * 7 + 3, none⟩ = some (.int .i64 l[k].adv) ∧ w.cell? ⟨b, o + k * 7 + 4, none⟩ = some (.int .i64 l[k].seq) ∧ w.cell? ⟨b, o + k * 7 + 5, none⟩ = some (.int .i64 l[k].sum) ∧ w.cell? ⟨b, o + k * 7 + 6, none⟩ = some (.int .i64 l[k].long) := by
  obtain ⟨b, o, e, hb, hc⟩ := h (by omega)
  exact ⟨b, o, e, hb, by simpa using hc k hk 0 _ (by omega) rfl, hc k hk 1 _ (by omega) rfl, hc k hk 2 _ (by omega) rfl, hc k hk 3 _ (by omega) rfl, hc k hk 4 _ (by omega) rfl, hc k hk 5 _ (by omega) rfl, hc k hk 6 _ (by omega) rfl⟩
end

end Go.Proofs.Ytfpjkeddcagfcaa

/-
  Layer 13: a summary's pieces, one behind the other.
-/
namespace Go.Proofs.Ytfpjkeddcagfcaa
open Go.RowKit Go.Sort

/-- the place of the next piece -/
def nextAt (a n : Nat) : Nat := if a + 3 < n then a + 3 else n
def pieceAt (H : List Hd) (a : Nat) : List Hd := (H.drop a).take 3
theorem piece_len (H : List Hd) (a : Nat) (_ha : a ≤ H.length) : (pieceAt H a).length = nextAt a H.length - a := by
  unfold pieceAt nextAt
  rw [List.length_take, List.length_drop]
  split <;> omega
theorem next_ge {a n : Nat} (h : a ≤ n) : a ≤ nextAt a n ∧ nextAt a n ≤ n := by unfold nextAt; split <;> omega
theorem row_from {w : World} {B : Nat} {g : Nat} {H : List Hd} {a : Nat} (h : RowsAt 7 Hd.cells w B (some ⟨g, 0, none⟩) H) : RowsAt 7 Hd.cells w B (some ⟨g, a * 7, none⟩) (pieceAt H a) := by
  intro h0
  unfold pieceAt at h0 ⊢
  rw [List.length_take, List.length_drop] at h0
  obtain ⟨b, o, e, hb, hc⟩ := h (by omega)
  injection e with e
  injection e with e1 e2
  subst e1 e2
  refine ⟨g, a * 7, rfl, hb, fun k hk i u hi hu => ?_⟩
  have hk2 : a + k < H.length := by rw [List.length_take, List.length_drop] at hk; omega
  have := hc (a + k) hk2 i u hi (by rw [← hu, List.getElem_take, List.getElem_drop])
  rw [← this]
  congr 2
  omega
theorem more_nextB {a n : Nat} : decide (nextAt a n < n) = decide (a + 3 < n) := by unfold nextAt; split <;> simp_all
set_option maxHeartbeats 4000000 in
set_option maxRecDepth 100000 in
theorem SuPiece_any (s : Nat) (v : Value) (a : Nat) (H : List Hd) (w : World) (h : SmAt w s v a H) (ha : a ≤ H.length) (hl : H.length ≤ 2 ^ 20) : Calls Try.prog 42 #[.pointer (some ⟨s, 0, none⟩)] w fun r w' => (∃ u, r = .returned u ∧ OwnR 56 7 Hd.cells w' w.heap.size u (pieceAt H a)) ∧ Below w.heap.size w w' := by
  obtain ⟨n, hn⟩ : ∃ n, H.length = n := ⟨_, rfl⟩
  obtain ⟨e, he⟩ : ∃ e, nextAt a n = e := ⟨_, rfl⟩
  have hpl := piece_len H a ha
  rw [hn] at ha hl hpl
  have hge := next_ge ha
  rw [he] at hge hpl
  have HS := Lib.hid h
  obtain ⟨c0, c1⟩ : _ ∧ _ := ⟨h.ptr.cell 0, h.ptr.cell 1⟩
  simp only [List.getElem?_toArray, List.getElem?_cons_zero, List.getElem?_cons_succ] at c0 c1
  have hai : (a : Int) ≤ 1048576 := by omega
  have hni : (n : Int) ≤ 1048576 := by omega
  have hge1 : (a : Int) ≤ (e : Int) := by omega
  have hge2 : (e : Int) ≤ (n : Int) := by omega
  obtain ⟨k, hk⟩ : ∃ k, e - a = k := ⟨_, rfl⟩
  have hki : (e : Int) - (a : Int) = (k : Int) := by omega
  have HN := Lib.hid hn
  have HE := Lib.hid (fun q => OwnR.nil (e := 56) (C := 7) (cells := Hd.cells) (w.drewN q) w.heap.size)
  by_cases hz : a = n
  · have hp0 : pieceAt H a = [] := by unfold pieceAt; rw [hz, ← hn, List.drop_length]; rfl
    rw [hp0]
    have Hpl := Lib.hid (show ([] : List Hd).length = 0 from rfl)
    subst hz
    rcases h.own.shape2 with ⟨hv, h0⟩ | ⟨g, cap, hv, hcap⟩
    · subst h0
      obtain rfl : a = 0 := by simpa using hn.symm
      subst hv
      have HR := Lib.hid (fun q => (show RowsAt 7 Hd.cells (w.drewN q) (w.drewN q).heap.size none ([] : List Hd) from fun h0 => absurd h0 (by simp)))
      clear h hn he hpl hge ha hl hk hp0
      simp only [Int.ofNat_zero] at *
      go_enter Try.func42, Try.ntmps42
      go_wp2_with fail
      refine wp_drew_tail 19 (by kernel_rfl) (by kernel_rfl) ?_
      simp only [List.take_succ_cons, List.take_zero, List.drop_succ_cons, List.drop_zero]
      repeat (go_big_quiet_step (fail))
      refine wpQuiet_nil ?_
      rintro w3 ⟨dq, rfl⟩
      go_wp2
      go_ret
      exact ⟨⟨_, rfl, OwnR.nil _ _⟩, below_drewN (Below.refl _ _) dq⟩
    · subst hv
      rw [hn] at c0 hcap
      have hcm : (a : Int) ≤ (cap : Int) := by omega
      by_cases hca : cap = a
      · subst hca
        have HR := Lib.hid (fun q => (show RowsAt 7 Hd.cells (w.drewN q) (w.drewN q).heap.size (some ⟨g, 0, none⟩) ([] : List Hd) from fun h0 => absurd h0 (by simp)))
        clear h hn he hpl hge ha hl hk hp0 hcap
        go_enter Try.func42, Try.ntmps42
        go_wp2_with fail
        refine wp_drew_tail 19 (by kernel_rfl) (by kernel_rfl) ?_
        simp only [List.take_succ_cons, List.take_zero, List.drop_succ_cons, List.drop_zero]
        repeat (go_big_quiet_step (fail))
        refine wpQuiet_nil ?_
        rintro w3 ⟨dq, rfl⟩
        go_wp2
        go_ret
        exact ⟨⟨_, rfl, OwnR.nil _ _⟩, below_drewN (Below.refl _ _) dq⟩
      · have HR := Lib.hid (fun q => (show RowsAt 7 Hd.cells (w.drewN q) (w.drewN q).heap.size (some ⟨g, a * 7, none⟩) ([] : List Hd) from fun h0 => absurd h0 (by simp)))
        clear h hn he hpl hge ha hl hk hp0 hcap
        go_enter Try.func42, Try.ntmps42
        go_wp2_with fail
        refine wp_drew_tail 19 (by kernel_rfl) (by kernel_rfl) ?_
        simp only [List.take_succ_cons, List.take_zero, List.drop_succ_cons, List.drop_zero]
        repeat (go_big_quiet_step (fail))
        refine wpQuiet_nil ?_
        rintro w3 ⟨dq, rfl⟩
        go_wp2
        go_ret
        exact ⟨⟨_, rfl, OwnR.nil _ _⟩, below_drewN (Below.refl _ _) dq⟩
  · have Hpl := Lib.hid (show (pieceAt H a).length = e - a by omega)
    obtain ⟨g, cap, hv, hcap⟩ : ∃ g c, v = .slice (some ⟨g, 0, none⟩) H.length c ∧ H.length ≤ c := by
      rcases h.own.shape2 with ⟨hv, h0⟩ | h0
      · subst h0; simp at hn; omega
      · exact h0
    subst hv
    rw [hn] at c0 hcap
    have HR := Lib.hid (fun q => (show RowsAt 7 Hd.cells (w.drewN q) (w.drewN q).heap.size (some ⟨g, a * 7, none⟩) (pieceAt H a) from row_from (OwnR.rows (C := 7) (cells := Hd.cells) (fun _ => rfl) (HS.out.own.below (below_drewN (Below.refl _ _) q))).2))
    have hcm : (e : Int) ≤ (cap : Int) := by omega
    have hca : ¬ cap = a := by omega
    by_cases hc : a + 3 < n
    · have he2 : (a : Int) + 3 = (e : Int) := by rw [← he]; unfold nextAt; rw [if_pos hc]; omega
      have hci : (e : Int) < (n : Int) := by omega
      clear h hn he hpl hge ha hl hk hcap hc
      go_enter Try.func42, Try.ntmps42
      go_wp2_with fail
      refine wp_drew_tail 19 (by kernel_rfl) (by kernel_rfl) ?_
      simp only [List.take_succ_cons, List.take_zero, List.drop_succ_cons, List.drop_zero]
      repeat (go_big_quiet_step (fail))
      refine wpQuiet_nil ?_
      rintro w3 ⟨dq, rfl⟩
      go_wp2_with (at_builtin; (refine app_rows (e := 56) Hd.cells (fun _ => rfl) (by decide) (bytes := 56) (by decide) infoHd13 rfl Try.underlying31 onesHd13 (by rfl) _ _ (by rfl) w.heap.size _ [] (by rfl) (HE.out _) (some ⟨g, a * 7, none⟩) _ (e - a) (pieceAt H a) Hpl.out.symm (by rfl) (HR.out _) (by have := Hpl.out; simp; omega) (by simp [World.drewN]) ?_); intro v5 w5 hown5 hg5 hor5; have O5 := Lib.hid hown5; have G5 := Lib.hid hg5; clear hown5 hg5 hor5; obtain ⟨A5, c5, hv5⟩ := O5.out.shape; subst hv5)
      go_ret
      exact ⟨⟨_, rfl, by simpa using O5.out⟩, (below_drewN (Below.refl _ _) dq).grown G5.out (by simp [World.drewN]) (fun m e => by cases e)⟩
    · have he2 : e = n := by rw [← he]; unfold nextAt; rw [if_neg hc]
      subst he2
      by_cases hc2 : a + 3 = e
      · have he2 : (a : Int) + 3 = (e : Int) := by omega
        clear h hn he hpl hge ha hl hk hcap hc hc2
        go_enter Try.func42, Try.ntmps42
        go_wp2_with fail
        refine wp_drew_tail 19 (by kernel_rfl) (by kernel_rfl) ?_
        simp only [List.take_succ_cons, List.take_zero, List.drop_succ_cons, List.drop_zero]
        repeat (go_big_quiet_step (fail))
        refine wpQuiet_nil ?_
        rintro w3 ⟨dq, rfl⟩
        go_wp2_with (at_builtin; (refine app_rows (e := 56) Hd.cells (fun _ => rfl) (by decide) (bytes := 56) (by decide) infoHd13 rfl Try.underlying31 onesHd13 (by rfl) _ _ (by rfl) w.heap.size _ [] (by rfl) (HE.out _) (some ⟨g, a * 7, none⟩) _ (e - a) (pieceAt H a) Hpl.out.symm (by rfl) (HR.out _) (by have := Hpl.out; simp; omega) (by simp [World.drewN]) ?_); intro v5 w5 hown5 hg5 hor5; have O5 := Lib.hid hown5; have G5 := Lib.hid hg5; clear hown5 hg5 hor5; obtain ⟨A5, c5, hv5⟩ := O5.out.shape; subst hv5)
        go_ret
        exact ⟨⟨_, rfl, by simpa using O5.out⟩, (below_drewN (Below.refl _ _) dq).grown G5.out (by simp [World.drewN]) (fun m e => by cases e)⟩
      · have hci : (e : Int) < (a : Int) + 3 := by omega
        clear h hn he hpl hge ha hl hk hcap hc hc2
        go_enter Try.func42, Try.ntmps42
        go_wp2_with fail
        refine wp_drew_tail 19 (by kernel_rfl) (by kernel_rfl) ?_
        simp only [List.take_succ_cons, List.take_zero, List.drop_succ_cons, List.drop_zero]
        repeat (go_big_quiet_step (fail))
        refine wpQuiet_nil ?_
        rintro w3 ⟨dq, rfl⟩
        go_wp2_with (at_builtin; (refine app_rows (e := 56) Hd.cells (fun _ => rfl) (by decide) (bytes := 56) (by decide) infoHd13 rfl Try.underlying31 onesHd13 (by rfl) _ _ (by rfl) w.heap.size _ [] (by rfl) (HE.out _) (some ⟨g, a * 7, none⟩) _ (e - a) (pieceAt H a) Hpl.out.symm (by rfl) (HR.out _) (by have := Hpl.out; simp; omega) (by simp [World.drewN]) ?_); intro v5 w5 hown5 hg5 hor5; have O5 := Lib.hid hown5; have G5 := Lib.hid hg5; clear hown5 hg5 hor5; obtain ⟨A5, c5, hv5⟩ := O5.out.shape; subst hv5)
        go_ret
        exact ⟨⟨_, rfl, by simpa using O5.out⟩, (below_drewN (Below.refl _ _) dq).grown G5.out (by simp [World.drewN]) (fun m e => by cases e)⟩
set_option maxHeartbeats 4000000 in
set_option maxRecDepth 100000 in
theorem SuMore_any (s : Nat) (v : Value) (a : Nat) (H : List Hd) (w : World) (h : SmAt w s v a H) (ha : a ≤ H.length) (hl : H.length ≤ 2 ^ 20) : Calls Try.prog 41 #[.pointer (some ⟨s, 0, none⟩)] w fun r w' => r = .returned (.bool (decide (a + 3 < H.length))) ∧ Below w.heap.size w w' := by
  obtain ⟨A, cap, hv⟩ := h.own.shape
  obtain ⟨c0, c1⟩ : _ ∧ _ := ⟨h.ptr.cell 0, h.ptr.cell 1⟩
  simp only [List.getElem?_toArray, List.getElem?_cons_zero, List.getElem?_cons_succ] at c0 c1
  subst hv
  obtain ⟨n, hn⟩ : ∃ n, H.length = n := ⟨_, rfl⟩
  rw [hn] at ha hl c0 ⊢
  have hai : (a : Int) ≤ 1048576 := by omega
  have hni : (n : Int) ≤ 1048576 := by omega
  clear h hn
  go_enter Try.func41, Try.ntmps41
  go_wp2
  go_quiet (fail)
  go_wp2
  go_ret
  refine ⟨?_, below_drewN (Below.refl _ _) _⟩
  have e : decide ((a : Int) + 3 < (n : Int)) = decide (a + 3 < n) := by by_cases h : a + 3 < n <;> simp [h] <;> omega
  rw [← e]
  rfl
set_option maxHeartbeats 4000000 in
set_option maxRecDepth 100000 in
theorem SuStep_any (s : Nat) (v : Value) (a : Nat) (H : List Hd) (w : World) (h : SmAt w s v a H) (ha : a ≤ H.length) (hl : H.length ≤ 2 ^ 20) : Calls Try.prog 36 #[.pointer (some ⟨s, 0, none⟩)] w fun r w' => r = .returned (.bool (decide (a + 3 < H.length))) ∧ SmAt w' s v (nextAt a H.length : Nat) H ∧ w.grownBy w' (some s) := by
  have HM := Lib.hid (SuMore_any s v a H w h ha hl)
  obtain ⟨A, cap, hv⟩ := h.own.shape
  obtain ⟨n, hn⟩ : ∃ n, H.length = n := ⟨_, rfl⟩
  obtain ⟨e, he⟩ : ∃ e, nextAt a n = e := ⟨_, rfl⟩
  rw [hn] at ha hl HM ⊢
  rw [he]
  have HS := Lib.hid h
  have Hv := Lib.hid hv
  have hai : (a : Int) ≤ 1048576 := by omega
  have hni : (n : Int) ≤ 1048576 := by omega
  have Hn := Lib.hid hn
  clear h hv
  go_enter Try.func36, Try.ntmps36
  go_wp2_with fail
  with_reducible refine Calls.mono HM.out ?_
  rintro r w1 ⟨rfl, hb1⟩
  have hs1 := HS.out.keep hb1
  have hsv := Hv.out
  rw [hn] at hsv
  obtain ⟨c0, c1⟩ : _ ∧ _ := ⟨hs1.ptr.cell 0, hs1.ptr.cell 1⟩
  simp only [List.getElem?_toArray, List.getElem?_cons_zero, List.getElem?_cons_succ] at c0 c1
  rw [hsv] at c0
  have hf := hs1.ptr.frozen 1
  have hK := Lib.hid (fun q => hs1.keep (below_drewN (Below.refl _ _) q))
  have hG := Lib.hid (fun q (u : Value) => grown_trans (a := w) (c := w1.drewN q) (d := (w1.drewN q).setCell ⟨s, 1, none⟩ u) (row := some s) (grown_below (World.grownBy.refl w (some s)) (below_trans hb1 hb1.size (below_drewN (Below.refl _ _) q))) (grown_set _ _ _ _))
  by_cases hc : a + 3 < n
  · have he2 : (a : Int) + 3 = (e : Int) := by rw [← he]; unfold nextAt; rw [if_pos hc]; omega
    have hci : (e : Int) < (n : Int) := by omega
    have hcd : decide (a + 3 < n) = true := decide_eq_true hc
    rw [hcd]
    clear hn hsv hs1 hb1 he ha hl hc
    go_wp2_with fail
    refine wp_drew_tail 14 (by kernel_rfl) (by kernel_rfl) ?_
    simp only [List.take_succ_cons, List.take_zero, List.drop_succ_cons, List.drop_zero]
    repeat (go_big_quiet_step (fail))
    refine wpQuiet_nil ?_
    rintro w3 ⟨dq, rfl⟩
    go_wp2
    go_ret
    refine ⟨by first | rfl | (rw [hcd]; rfl), ⟨?_, ?_⟩, ?_⟩
    · have := ((hK.out dq).ptr.set_ 1 (.int .i64 (e : Int))).to (cs' := #[v, .int .i64 (e : Int)]) (by simp)
      exact this
    · exact (hK.out dq).own.set_ (by simp) _
    · exact hG.out dq _
  · have he2 : e = n := by rw [← he]; unfold nextAt; rw [if_neg hc]
    subst he2
    have hcd : decide (a + 3 < e) = false := decide_eq_false hc
    rw [hcd]
    by_cases hc2 : a + 3 = e
    · have he3 : (a : Int) + 3 = (e : Int) := by omega
      clear hn hsv hs1 hb1 he ha hl hc hc2
      go_wp2_with fail
      refine wp_drew_tail 14 (by kernel_rfl) (by kernel_rfl) ?_
      simp only [List.take_succ_cons, List.take_zero, List.drop_succ_cons, List.drop_zero]
      repeat (go_big_quiet_step (fail))
      refine wpQuiet_nil ?_
      rintro w3 ⟨dq, rfl⟩
      go_wp2
      go_ret
      refine ⟨by first | rfl | (rw [hcd]; rfl), ⟨?_, ?_⟩, ?_⟩
      · have := ((hK.out dq).ptr.set_ 1 (.int .i64 (e : Int))).to (cs' := #[v, .int .i64 (e : Int)]) (by simp)
        exact this
      · exact (hK.out dq).own.set_ (by simp) _
      · exact hG.out dq _
    · have hci : (e : Int) < (a : Int) + 3 := by omega
      clear hn hsv hs1 hb1 he ha hl hc hc2
      go_wp2_with fail
      refine wp_drew_tail 14 (by kernel_rfl) (by kernel_rfl) ?_
      simp only [List.take_succ_cons, List.take_zero, List.drop_succ_cons, List.drop_zero]
      repeat (go_big_quiet_step (fail))
      refine wpQuiet_nil ?_
      rintro w3 ⟨dq, rfl⟩
      go_wp2
      go_ret
      refine ⟨by first | rfl | (rw [hcd]; rfl), ⟨?_, ?_⟩, ?_⟩
      · have := ((hK.out dq).ptr.set_ 1 (.int .i64 (e : Int))).to (cs' := #[v, .int .i64 (e : Int)]) (by simp)
        exact this
      · exact (hK.out dq).own.set_ (by simp) _
      · exact hG.out dq _

end Go.Proofs.Ytfpjkeddcagfcaa

/-
  Layer 14: an exchange as a value, and in memory; what a call that turns two blocks leaves as it was.
-/
namespace Go.Proofs.Ytfpjkeddcagfcaa
open Go.RowKit Go.Sort

/-- a piece -/
structure DdV where
  i : Bool
  m : Bool
  s : Bool
  q : Int
  hs : List Hd
/-- an exchange -/
structure ExM where
  a : Int
  b : Int
  n : Int
  ag : Bool
  ld : Bool
  dn : Bool
  l1 : Bool
  l2 : Bool
  l3 : Bool
  l4 : Int
  said : DdV
  H : List Hd
  k : Nat
def exNext (n : Int) : Int := (n + 1) % 4294967296
def sayM (x : ExM) : ExM := { x with said := ⟨false, decide (x.k + 3 < x.H.length), x.ld, x.n, pieceAt x.H x.k⟩ }
def beginM (x : ExM) (d : DdV) (S : List Hd) : Option ExM :=
  if d.i = true ∧ d.m = true ∧ d.s = true ∧ d.hs.length = 0 ∧ x.a < x.b then some (sayM { x with n := d.q, ag := true, H := S, k := 0 })
  else if d.i = false ∧ d.s = false ∧ d.q = x.n ∧ x.b < x.a then some (sayM { x with n := exNext x.n, ld := true, ag := true, H := S, k := 0 })
  else none
def wantM (x : ExM) : Int := if x.ld then x.n else exNext x.n
def fitsM (x : ExM) (d : DdV) : Bool := !x.dn && (!d.i && ((d.s != x.ld) && decide (d.q = wantM x)))
def stepM (x : ExM) : ExM := { x with k := nextAt x.k x.H.length }
def takeM (x : ExM) (d : DdV) : ExM :=
  if x.ld then
    if !d.m && !x.said.m then { x with n := exNext d.q, dn := true } else sayM (stepM { x with n := exNext d.q, dn := false })
  else
    let y := sayM (stepM { x with n := d.q })
    { y with dn := !d.m && !y.said.m }
def markM (x : ExM) (d : DdV) : ExM := { x with l1 := d.i, l2 := d.m, l3 := d.s, l4 := d.q }
def sameM (x : ExM) (d : DdV) : Bool := decide (d.i = x.l1 ∧ d.m = x.l2 ∧ d.s = x.l3 ∧ d.q = x.l4)
/-- what comes of a piece -/
def hearM (x : ExM) (d : DdV) (S : List Hd) : ExM × Int :=
  if d.q < 0 ∨ 4294967295 < d.q then (x, 0)
  else if x.ag = false then
    match beginM x d S with
    | none => (x, 0)
    | some y => (markM y d, 2)
  else if sameM x d then (x, if x.ld then 0 else 1)
  else if fitsM x d then (markM (takeM x d) d, 2)
  else (x, 3)

def ExM.ar (x : ExM) (hv pv : Value) : Array Value := exA x.a x.b x.n x.ag x.ld x.dn x.l1 x.l2 x.l3 x.l4 x.said.i x.said.m x.said.s x.said.q hv pv
/-- an exchange in memory: its own block, that of its summary, the heads it said -/
structure ExAt (X : Nat → Prop) (w : World) (p s : Nat) (x : ExM) : Prop where
  ptr : ∃ hv, Blk w p 65 (x.ar hv (if x.ag then .pointer (some ⟨s, 0, none⟩) else .pointer none)) ∧ OwnR 56 7 Hd.cells w 0 hv x.said.hs
  sum : x.ag = true → ∃ v, SmAt w s v x.k x.H
  le : x.ag = true → x.k ≤ x.H.length ∧ x.H.length ≤ 60
  rng : 0 ≤ x.n ∧ x.n ≤ 4294967295
  off : ∀ hv pv, Blk w p 65 (x.ar hv pv) → ∀ g, hv.ownBlock = some g → ¬ X g
  soff : x.ag = true → ∀ v k H, SmAt w s v k H → ∀ g, v.ownBlock = some g → ¬ X g
theorem blk_same {w : World} {g : Nat} {t t' : TypeId} {cs cs' : Array Value} (h : Blk w g t cs) (h' : Blk w g t' cs') : cs = cs' := by
  have h1 : w.heap[g]? = some (.cells cs t (0, 0)) := h
  have h2 : w.heap[g]? = some (.cells cs' t' (0, 0)) := h'
  rw [h1] at h2
  injection h2 with h2
  injection h2
theorem ExAt.of {X : Nat → Prop} {w : World} {p s : Nat} {x : ExM} (hp : ∃ hv, Blk w p 65 (x.ar hv (if x.ag then .pointer (some ⟨s, 0, none⟩) else .pointer none)) ∧ OwnR 56 7 Hd.cells w 0 hv x.said.hs ∧ ∀ g, hv.ownBlock = some g → ¬ X g)
    (hs : x.ag = true → ∃ v, SmAt w s v x.k x.H ∧ ∀ g, v.ownBlock = some g → ¬ X g) (hl : x.ag = true → x.k ≤ x.H.length ∧ x.H.length ≤ 60) (hr : 0 ≤ x.n ∧ x.n ≤ 4294967295) : ExAt X w p s x := by
  obtain ⟨hv, h1, h2, h3⟩ := hp
  refine ⟨⟨hv, h1, h2⟩, fun e => by obtain ⟨v, h4, -⟩ := hs e; exact ⟨v, h4⟩, hl, hr, fun hv' pv' hb g e => ?_, fun e v' k' H' hb g e2 => ?_⟩
  · have h5 := congrArg (fun a => a[14]?) (blk_same hb h1)
    simp [ExM.ar, exA] at h5
    rw [h5] at e
    exact h3 g e
  · obtain ⟨v, h4, h5⟩ := hs e
    have h6 := congrArg (fun a => a[0]?) (blk_same hb.ptr h4.ptr)
    simp at h6
    rw [h6] at e2
    exact h5 g e2
theorem ExAt.ptrX {X : Nat → Prop} {w : World} {p s : Nat} {x : ExM} (h : ExAt X w p s x) : ∃ hv, Blk w p 65 (x.ar hv (if x.ag then .pointer (some ⟨s, 0, none⟩) else .pointer none)) ∧ OwnR 56 7 Hd.cells w 0 hv x.said.hs ∧ ∀ g, hv.ownBlock = some g → ¬ X g := by
  obtain ⟨hv, h1, h2⟩ := h.ptr
  exact ⟨hv, h1, h2, h.off hv _ h1⟩
theorem ExAt.sumX {X : Nat → Prop} {w : World} {p s : Nat} {x : ExM} (h : ExAt X w p s x) (e : x.ag = true) : ∃ v, SmAt w s v x.k x.H ∧ ∀ g, v.ownBlock = some g → ¬ X g := by
  obtain ⟨v, h1⟩ := h.sum e
  exact ⟨v, h1, h.soff e v _ _ h1⟩
theorem own_ne14 {α : Type} {e t : TypeId} {C g B : Nat} {cells : α → List Value} {w : World} {v : Value} {L : List α} {cs : Array Value} (ho : OwnR e C cells w B v L) (hb : Blk w g t cs) (hne : e ≠ t) : v.ownBlock ≠ some g := by
  intro e'
  rcases ho.2 with ⟨g', -⟩ | ⟨g', cap, cur, h1, h2, h3, h4⟩
  · rw [g'] at e'; cases e'
  · rw [h1] at e'
    have e2 : g' = g := by injection e'
    rw [e2] at h3
    have h6 : w.heap[g]? = some (.cells cs t (0, 0)) := hb
    rw [h6] at h3
    injection h3 with h3
    injection h3 with _ h3
    exact hne h3.symm
/-- blocks of a kind, and new ones, may have changed -/
inductive Mvs (P : Nat → Prop) : World → World → Prop
  | refl (w : World) : Mvs P w w
  | step {w w1 w2 : World} {g : Nat} : Mvs P w w1 → w1.grownBy w2 (some g) → P g → Mvs P w w2
section
variable {P Q : Nat → Prop} {w w1 w' : World} {g s p : Nat}
theorem Mvs.one (h : w.grownBy w' (some g)) (hg : P g) : Mvs P w w' := .step (.refl _) h hg
theorem Mvs.trans (h : Mvs P w w1) (k : Mvs P w1 w') : Mvs P w w' := by
  induction k with
  | refl => exact h
  | step _ hg hp ih => exact .step ih hg hp
theorem Mvs.imp (h : Mvs P w w') (hi : ∀ g, P g → Q g) : Mvs Q w w' := by
  induction h with
  | refl => exact .refl _
  | step _ hg hp ih => exact .step ih hg (hi _ hp)
theorem Mvs.size (h : Mvs P w w') : w.heap.size ≤ w'.heap.size := by
  induction h with
  | refl => exact Nat.le_refl _
  | step _ hg _ ih => exact Nat.le_trans ih hg.size
theorem Mvs.blk {t : TypeId} {cs : Array Value} (h : Mvs P w w') (hb : Blk w g t cs) (hg : ¬ P g) : Blk w' g t cs := by
  induction h with
  | refl => exact hb
  | step _ hr hp ih => exact ih.grown hr (fun e => by injection e with e; rw [e] at hg; exact hg hp)
theorem Mvs.own {α : Type} {e : TypeId} {C B : Nat} {cells : α → List Value} {v : Value} {L : List α} (h : Mvs P w w') (ho : OwnR e C cells w B v L) (hv : ∀ g, v.ownBlock = some g → ¬ P g) : OwnR e C cells w' B v L := by
  induction h with
  | refl => exact ho
  | step _ hr hp ih => exact ih.kept hr (.inr fun e => hv _ e hp)
theorem Mvs.bel {B : Nat} {w0 : World} (h : Mvs P w w') (hb : Below B w0 w) (hB : B ≤ w.heap.size) (hP : ∀ g, P g → B ≤ g) : Below B w0 w' := by
  induction h with
  | refl => exact hb
  | step hm hr hp ih => exact ih.grown hr (Nat.le_trans hB hm.size) (fun m e => by injection e with e; rw [← e]; exact hP _ hp)
theorem blk_type {t t' : TypeId} {cs cs' : Array Value} (h : Blk w g t cs) (h' : Blk w g t' cs') : t = t' := by
  have h1 : w.heap[g]? = some (.cells cs t (0, 0)) := h
  have h2 : w.heap[g]? = some (.cells cs' t' (0, 0)) := h'
  rw [h1] at h2
  injection h2 with h2
  injection h2
theorem ExAt.below {X : Nat → Prop} {x : ExM} (h : ExAt X w p s x) (hb : Below w.heap.size w w') : ExAt X w' p s x := by
  obtain ⟨hv, h1, h2, h4⟩ := h.ptrX
  exact .of ⟨hv, h1.below hb h1.lt, h2.below hb, h4⟩ (fun e => by obtain ⟨v, h3, h5⟩ := h.sumX e; exact ⟨v, h3.keep hb, h5⟩) h.le h.rng
/-- one exchange moves, another one stays -/
theorem ExAt.moved {X : Nat → Prop} {x : ExM} (h : ExAt X w p s x) (hm : Mvs P w w') (hp : ¬ P p) (hs : x.ag = true → ¬ P s) (hP : ∀ g, P g → X g ∨ ∃ t cs, Blk w g t cs ∧ 56 ≠ t) : ExAt X w' p s x := by
  obtain ⟨hv, h1, h2, hx⟩ := h.ptrX
  have far : ∀ {B : Nat} {v : Value} {L : List Hd}, OwnR 56 7 Hd.cells w B v L → (∀ g, v.ownBlock = some g → ¬ X g) → ∀ g, v.ownBlock = some g → ¬ P g := fun ho hx g e hg => by
    rcases hP g hg with hg2 | ⟨t, cs, hb, hne⟩
    · exact hx g e hg2
    · exact own_ne14 ho hb hne e
  exact .of ⟨hv, hm.blk h1 hp, hm.own h2 (far h2 hx), hx⟩ (fun e => by obtain ⟨v, h3, h4⟩ := h.sumX e; exact ⟨v, ⟨hm.blk h3.ptr (hs e), hm.own h3.own (far h3.own h4)⟩, h4⟩) h.le h.rng
end

end Go.Proofs.Ytfpjkeddcagfcaa

/-
  Layer 14: an exchange says the piece it is at.
-/
namespace Go.Proofs.Ytfpjkeddcagfcaa
open Go.RowKit Go.Sort

set_option maxHeartbeats 16000000 in
set_option maxRecDepth 100000 in
theorem say_any {X : Nat → Prop} (p s : Nat) (x : ExM) (w : World) (h : ExAt X w p s x) (hag : x.ag = true) (hX : ∀ g, X g → g < w.heap.size) :
    Calls Try.prog 35 #[.pointer (some ⟨p, 0, none⟩)] w fun r w' => r = .returned (.tuple #[]) ∧ ExAt X w' p s (sayM x) ∧ w.grownBy w' (some p) := by
  obtain ⟨a, b, n, ag, ld, dn, l1, l2, l3, l4, ⟨si, sm, ss, sq, shs⟩, H, k⟩ := x
  simp only at hag
  subst hag
  obtain ⟨hv, hp, ho⟩ := h.ptr
  obtain ⟨v, hs⟩ := h.sum rfl
  have HSo := Lib.hid (h.soff rfl v _ _ hs)
  have HXs := Lib.hid hX
  obtain ⟨hk, hH⟩ := h.le rfl
  have HR := Lib.hid h.rng
  simp only [ExM.ar, if_true] at hp ho hs hk hH
  obtain ⟨t, ht⟩ : ∃ t, decide (k + 3 < H.length) = t := ⟨_, rfl⟩
  have CM := Lib.hid (fun W (hW : Below w.heap.size w W) => SuMore_any s v k H W (hs.keep hW) hk (by omega))
  rw [ht] at CM
  have CP := Lib.hid (fun W (hW : Below w.heap.size w W) => SuPiece_any s v k H W (hs.keep hW) hk (by omega))
  have HP := Lib.hid hp
  have HS := Lib.hid hs
  have HL := Lib.hid (And.intro hk hH)
  have HX := Lib.hid (fun W (hW : Below w.heap.size w W) => blk16 (hp.below hW hp.lt))
  have Ht := Lib.hid ht
  clear h ho hs hk hH ht hX
  obtain ⟨x0, x1, x2, x3, x4, x5, x6, x7, x8, x9, xa, xb, xc, xd, xe, xf⟩ := blk16 hp
  clear hp x0 x1 x3 x5 x6 x7 x8 x9 xa xb xc xd xe
  go_enter Try.func35, Try.ntmps35
  go_wp2_with fail
  refine wp_region_F (F := fun W => Below w.heap.size w W) (n := 22) (m := 23) (s := #[false, false, false, false, false, false, false, false, false, false, false, false, false, false, false, false, false, false, false, false, false, false, false]) (by kernel_rfl) (by kernel_rfl) (by kernel_rfl) ?_
  intro wd hwd
  have hF : Below w.heap.size w wd := by rw [hwd.out]; exact (Below.refl _ _).drew
  clear hwd
  refine F_take (i := 0) (d := some 2) (by kernel_rfl) (by kernel_rfl) (by decide) (s' := #[true, false, false, false, false, false, false, false, false, false, false, false, false, false, false, false, false, false, false, false, false, false, false]) (by kernel_rfl) rfl rfl (by kernel_rfl) (by kernel_rfl) (by kernel_rfl) (fun _ _ _ h => h) (Or.inl ⟨by kernel_rfl, fun W hW => by go_simp; try with_reducible rfl⟩) hF ?_
  go_frame
  refine F_take (i := 1) (d := some 3) (by kernel_rfl) (by kernel_rfl) (by decide) (s' := #[true, true, false, false, false, false, false, false, false, false, false, false, false, false, false, false, false, false, false, false, false, false, false]) (by kernel_rfl) rfl rfl (by kernel_rfl) (by kernel_rfl) (by kernel_rfl) (fun _ _ _ h => h) (Or.inl ⟨by kernel_rfl, fun W hW => by go_simp; try with_reducible rfl⟩) hF ?_
  go_frame
  refine F_take (i := 2) (d := some 4) (by kernel_rfl) (by kernel_rfl) (by decide) (s' := #[true, true, true, false, false, false, false, false, false, false, false, false, false, false, false, false, false, false, false, false, false, false, false]) (by kernel_rfl) rfl rfl (by kernel_rfl) (by kernel_rfl) (by kernel_rfl) (fun _ _ _ h => h) (Or.inl ⟨by kernel_rfl, fun W hW => by go_simp; try with_reducible rfl⟩) hF ?_
  go_frame
  refine F_take (i := 3) (d := some 5) (by kernel_rfl) (by kernel_rfl) (by decide) (s' := #[true, true, true, true, false, false, false, false, false, false, false, false, false, false, false, false, false, false, false, false, false, false, false]) (by kernel_rfl) rfl rfl (by kernel_rfl) (by kernel_rfl) (by kernel_rfl) (fun _ _ _ h => h) (Or.inl ⟨by kernel_rfl, fun W hW => by go_simp; try with_reducible rfl⟩) hF ?_
  go_frame
  refine F_take (i := 4) (d := some 6) (by kernel_rfl) (by kernel_rfl) (by decide) (s' := #[true, true, true, true, true, false, false, false, false, false, false, false, false, false, false, false, false, false, false, false, false, false, false]) (by kernel_rfl) rfl rfl (by kernel_rfl) (by kernel_rfl) (by kernel_rfl) (fun _ _ _ h => h) (Or.inl ⟨by kernel_rfl, fun W hW => by obtain ⟨y0, y1, y2, y3, y4, y5, y6, y7, y8, y9, ya, yb, yc, yd, ye, yf⟩ := HX.out W hW; go_simp; try with_reducible rfl⟩) hF ?_
  go_frame
  refine F_take (i := 6) (d := some 8) (by kernel_rfl) (by kernel_rfl) (by decide) (s' := #[true, true, true, true, true, false, true, false, false, false, false, false, false, false, false, false, false, false, false, false, false, false, false]) (by kernel_rfl) rfl rfl (by kernel_rfl) (by kernel_rfl) (by kernel_rfl) (fun _ _ _ h => h) (Or.inl ⟨by kernel_rfl, fun W hW => by go_simp; try with_reducible rfl⟩) hF ?_
  go_frame
  refine F_take (i := 7) (d := some 9) (by kernel_rfl) (by kernel_rfl) (by decide) (s' := #[true, true, true, true, true, false, true, true, false, false, false, false, false, false, false, false, false, false, false, false, false, false, false]) (by kernel_rfl) rfl rfl (by kernel_rfl) (by kernel_rfl) (by kernel_rfl) (fun _ _ _ h => h) (Or.inl ⟨by kernel_rfl, fun W hW => by go_simp; try with_reducible rfl⟩) hF ?_
  go_frame
  refine F_take (i := 8) (d := some 10) (by kernel_rfl) (by kernel_rfl) (by decide) (s' := #[true, true, true, true, true, false, true, true, true, false, false, false, false, false, false, false, false, false, false, false, false, false, false]) (by kernel_rfl) rfl rfl (by kernel_rfl) (by kernel_rfl) (by kernel_rfl) (fun _ _ _ h => h) (Or.inl ⟨by kernel_rfl, fun W hW => by go_simp; try with_reducible rfl⟩) hF ?_
  go_frame
  refine F_take (i := 9) (d := some 11) (by kernel_rfl) (by kernel_rfl) (by decide) (s' := #[true, true, true, true, true, false, true, true, true, true, false, false, false, false, false, false, false, false, false, false, false, false, false]) (by kernel_rfl) rfl rfl (by kernel_rfl) (by kernel_rfl) (by kernel_rfl) (fun _ _ _ h => h) (Or.inl ⟨by kernel_rfl, fun W hW => by obtain ⟨y0, y1, y2, y3, y4, y5, y6, y7, y8, y9, ya, yb, yc, yd, ye, yf⟩ := HX.out W hW; go_simp; try with_reducible rfl⟩) hF ?_
  go_frame
  refine F_take (i := 10) (d := some 12) (by kernel_rfl) (by kernel_rfl) (by decide) (s' := #[true, true, true, true, true, false, true, true, true, true, true, false, false, false, false, false, false, false, false, false, false, false, false]) (by kernel_rfl) rfl rfl (by kernel_rfl) (by kernel_rfl) (by kernel_rfl) (fun _ _ _ h => h) (Or.inl ⟨by kernel_rfl, fun W hW => by go_simp; try with_reducible rfl⟩) hF ?_
  go_frame
  refine F_take (i := 11) (d := some 13) (by kernel_rfl) (by kernel_rfl) (by decide) (s' := #[true, true, true, true, true, false, true, true, true, true, true, true, false, false, false, false, false, false, false, false, false, false, false]) (by kernel_rfl) rfl rfl (by kernel_rfl) (by kernel_rfl) (by kernel_rfl) (fun _ _ _ h => h) (Or.inl ⟨by kernel_rfl, fun W hW => by go_simp; try with_reducible rfl⟩) hF ?_
  go_frame
  refine F_take (i := 12) (d := some 14) (by kernel_rfl) (by kernel_rfl) (by decide) (s' := #[true, true, true, true, true, false, true, true, true, true, true, true, true, false, false, false, false, false, false, false, false, false, false]) (by kernel_rfl) rfl rfl (by kernel_rfl) (by kernel_rfl) (by kernel_rfl) (fun _ _ _ h => h) (Or.inl ⟨by kernel_rfl, fun W hW => by go_simp; try with_reducible rfl⟩) hF ?_
  go_frame
  refine F_take (i := 13) (d := some 15) (by kernel_rfl) (by kernel_rfl) (by decide) (s' := #[true, true, true, true, true, false, true, true, true, true, true, true, true, true, false, false, false, false, false, false, false, false, false]) (by kernel_rfl) rfl rfl (by kernel_rfl) (by kernel_rfl) (by kernel_rfl) (fun _ _ _ h => h) (Or.inl ⟨by kernel_rfl, fun W hW => by obtain ⟨y0, y1, y2, y3, y4, y5, y6, y7, y8, y9, ya, yb, yc, yd, ye, yf⟩ := HX.out W hW; go_simp; try with_reducible rfl⟩) hF ?_
  go_frame
  refine F_take (i := 14) (d := some 16) (by kernel_rfl) (by kernel_rfl) (by decide) (s' := #[true, true, true, true, true, false, true, true, true, true, true, true, true, true, true, false, false, false, false, false, false, false, false]) (by kernel_rfl) rfl rfl (by kernel_rfl) (by kernel_rfl) (by kernel_rfl) (fun _ _ _ h => h) (Or.inl ⟨by kernel_rfl, fun W hW => by go_simp; try with_reducible rfl⟩) hF ?_
  go_frame
  refine F_take (i := 15) (d := some 17) (by kernel_rfl) (by kernel_rfl) (by decide) (s' := #[true, true, true, true, true, false, true, true, true, true, true, true, true, true, true, true, false, false, false, false, false, false, false]) (by kernel_rfl) rfl rfl (by kernel_rfl) (by kernel_rfl) (by kernel_rfl) (fun _ _ _ h => h) (Or.inl ⟨by kernel_rfl, fun W hW => by go_simp; try with_reducible rfl⟩) hF ?_
  go_frame
  refine F_take (i := 16) (d := some 18) (by kernel_rfl) (by kernel_rfl) (by decide) (s' := #[true, true, true, true, true, false, true, true, true, true, true, true, true, true, true, true, true, false, false, false, false, false, false]) (by kernel_rfl) rfl rfl (by kernel_rfl) (by kernel_rfl) (by kernel_rfl) (fun _ _ _ h => h) (Or.inl ⟨by kernel_rfl, fun W hW => by go_simp; try with_reducible rfl⟩) hF ?_
  go_frame
  refine F_take (i := 17) (d := some 19) (by kernel_rfl) (by kernel_rfl) (by decide) (s' := #[true, true, true, true, true, false, true, true, true, true, true, true, true, true, true, true, true, true, false, false, false, false, false]) (by kernel_rfl) rfl rfl (by kernel_rfl) (by kernel_rfl) (by kernel_rfl) (fun _ _ _ h => h) (Or.inl ⟨by kernel_rfl, fun W hW => by obtain ⟨y0, y1, y2, y3, y4, y5, y6, y7, y8, y9, ya, yb, yc, yd, ye, yf⟩ := HX.out W hW; go_simp; try with_reducible rfl⟩) hF ?_
  go_frame
  clear x2 x4 xf
  refine F_one (i := 5) (s' := #[true, true, true, true, true, true, true, true, true, true, true, true, true, true, true, true, true, true, false, false, false, false, false]) (by kernel_rfl) (by kernel_rfl) ?_
  refine wpOp_enterL (i := 5) (d := some 7) (f := 41) (args := #[.pointer (some ⟨s, 0, none⟩)]) rfl rfl (by kernel_rfl) (by go_simp) (Calls.mono (CM.out _ hF) ?_)
  rintro r w5 ⟨rfl, hb5⟩
  have hF5 := below_trans hF hF.size hb5
  clear hF hb5
  have hF := hF5
  clear hF5
  refine ⟨_, rfl, fun _ => hF, ?_⟩
  go_frame
  refine F_one (i := 18) (s' := #[true, true, true, true, true, true, true, true, true, true, true, true, true, true, true, true, true, true, true, false, false, false, false]) (by kernel_rfl) (by kernel_rfl) ?_
  refine wpOp_enterL (i := 18) (d := some 20) (f := 42) (args := #[.pointer (some ⟨s, 0, none⟩)]) rfl rfl (by kernel_rfl) (by go_simp) (Calls.mono (CP.out _ hF) ?_)
  have HBp := Lib.hid hF.size
  rintro r w6 ⟨⟨u, rfl, hu⟩, hb6⟩
  have hF6 := below_trans hF hF.size hb6
  clear hF hb6
  have hF := hF6
  clear hF6
  obtain ⟨Au, cu, hvu⟩ := hu.shape
  obtain ⟨nu, hnu⟩ : ∃ q, (pieceAt H k).length = q := ⟨_, rfl⟩
  rw [hnu] at hvu
  subst hvu
  refine ⟨_, rfl, fun _ => hF, ?_⟩
  go_frame
  refine F_take (i := 19) (d := some 21) (by kernel_rfl) (by kernel_rfl) (by decide) (s' := #[true, true, true, true, true, true, true, true, true, true, true, true, true, true, true, true, true, true, true, true, false, false, false]) (by kernel_rfl) rfl rfl (by kernel_rfl) (by kernel_rfl) (by kernel_rfl) (fun _ _ _ h => h) (Or.inl ⟨by kernel_rfl, fun W hW => by go_simp; try with_reducible rfl⟩) hF ?_
  go_frame
  refine F_take (i := 20) (d := some 22) (by kernel_rfl) (by kernel_rfl) (by decide) (s' := #[true, true, true, true, true, true, true, true, true, true, true, true, true, true, true, true, true, true, true, true, true, false, false]) (by kernel_rfl) rfl rfl (by kernel_rfl) (by kernel_rfl) (by kernel_rfl) (fun _ _ _ h => h) (Or.inl ⟨by kernel_rfl, fun W hW => by go_simp; try with_reducible rfl⟩) hF ?_
  go_frame
  refine F_take (i := 21) (d := some 23) (by kernel_rfl) (by kernel_rfl) (by decide) (s' := #[true, true, true, true, true, true, true, true, true, true, true, true, true, true, true, true, true, true, true, true, true, true, false]) (by kernel_rfl) rfl rfl (by kernel_rfl) (by kernel_rfl) (by kernel_rfl) (fun _ _ _ h => h) (Or.inl ⟨by kernel_rfl, fun W hW => by go_simp; try with_reducible rfl⟩) hF ?_
  go_frame
  have hp6 := HP.out.below hF HP.out.lt
  have hfz := fun i => hp6.frozen i
  obtain ⟨y0, y1, y2, y3, y4, y5, y6, y7, y8, y9, ya, yb, yc, yd, ye, yf⟩ := blk16 hp6
  have hset := ((((hp6.set_ 10 (.bool false)).set_ 11 (.bool t)).set_ 12 (.bool ld)).set_ 13 (.int .i64 n)).set_ 14 (.slice Au nu cu)
  have hgr := gr_set (gr_set (gr_set (gr_set (gr_set (gr_below (row := some p) hF) 10 (.bool false)) 11 (.bool t)) 12 (.bool ld)) 13 (.int .i64 n)) 14 (.slice Au nu cu)
  have hou := ((((hu.kept (grown_set w6 p 10 (.bool false)) (.inr (own_ne14 hu hp6 (by decide)))).kept (grown_set _ p 11 (.bool t)) (.inr (own_ne14 hu hp6 (by decide)))).kept (grown_set _ p 12 (.bool ld)) (.inr (own_ne14 hu hp6 (by decide)))).kept (grown_set _ p 13 (.int .i64 n)) (.inr (own_ne14 hu hp6 (by decide)))).kept (grown_set _ p 14 (.slice Au nu cu)) (.inr (own_ne14 hu hp6 (by decide)))
  obtain ⟨wz, hwz⟩ : ∃ W, ((((w6.setCell ⟨p, 10, none⟩ (.bool false)).setCell ⟨p, 11, none⟩ (.bool t)).setCell ⟨p, 12, none⟩ (.bool ld)).setCell ⟨p, 13, none⟩ (.int .i64 n)).setCell ⟨p, 14, none⟩ (.slice Au nu cu) = W := ⟨_, rfl⟩
  rw [hwz] at hset hgr hou
  refine F_one (i := 22) (s' := #[true, true, true, true, true, true, true, true, true, true, true, true, true, true, true, true, true, true, true, true, true, true, true]) (by kernel_rfl) (by kernel_rfl) (wpOp_skipL (i := 22) (w' := wz) rfl rfl (by kernel_rfl) (by go_simp) ⟨fun h => absurd h (by decide), ?_⟩)
  go_frame
  refine F_done (by kernel_rfl) ?_ _
  clear hwz hF y0 y1 y2 y3 y4 y5 y6 y7 y8 y9 ya yb yc yd ye yf hfz
  go_wp2
  refine bodyPost_end (results_none rfl _ _ _) rfl ?_
  have hsv : ∃ v, SmAt wz s v k H ∧ ∀ g, v.ownBlock = some g → ¬ X g := by
    have hps : p ≠ s := fun e => by have h1 := blk_type (e ▸ HP.out) HS.out.ptr; revert h1; decide
    exact ⟨v, ⟨HS.out.ptr.grown hgr (fun e => hps (by injection e with e; exact e.symm)), HS.out.own.kept hgr (.inr (own_ne14 HS.out.own HP.out (by decide)))⟩, HSo.out⟩
  have hoff : ∀ g, (Value.slice Au nu cu).ownBlock = some g → ¬ X g := fun g e hg => by have := (hou.block g e).1; have := HXs.out g hg; have := HBp.out; omega
  refine ⟨rfl, .of ⟨.slice Au nu cu, by simpa [exA, ExM.ar, sayM, Ht.out] using hset, hou.lower (Nat.zero_le _), hoff⟩ (fun _ => hsv) (fun _ => HL.out) HR.out, hgr⟩

end Go.Proofs.Ytfpjkeddcagfcaa
