/-
  Layer 14: an exchange in memory; a new one; what it says; one that begins, in the example.
-/
import Derived.Laws.BitsLemmas
import Derived.Test.YtfpjkeddcagfcaaBaa
import Derived.Test.YtfpjkeddcagfcaaBab
import Derived.Test.YtfpjkeddcagfcaaBac
namespace Go.Proofs.Ytfpjkeddcagfcaa
open Go.RowKit Go.Sort

/-- an exchange's cells: who, with whom, its number, agreed, leads, done, what it took last, what it said last, its summary -/
def exA (a b n : Int) (ag ld dn l1 l2 l3 : Bool) (l4 : Int) (s1 s2 s3 : Bool) (s4 : Int) (hv p : Value) : Array Value := #[.int .i64 a, .int .i64 b, .int .i64 n, .bool ag, .bool ld, .bool dn, .bool l1, .bool l2, .bool l3, .int .i64 l4, .bool s1, .bool s2, .bool s3, .int .i64 s4, hv, p]
theorem blk16 {w : World} {g : Nat} {t : TypeId} {x0 x1 x2 x3 x4 x5 x6 x7 x8 x9 xa xb xc xd xe xf : Value} (h : Blk w g t #[x0, x1, x2, x3, x4, x5, x6, x7, x8, x9, xa, xb, xc, xd, xe, xf]) : w.cell? ⟨g, 0, none⟩ = some x0 ∧ w.cell? ⟨g, 1, none⟩ = some x1 ∧ w.cell? ⟨g, 2, none⟩ = some x2 ∧ w.cell? ⟨g, 3, none⟩ = some x3 ∧ w.cell? ⟨g, 4, none⟩ = some x4 ∧ w.cell? ⟨g, 5, none⟩ = some x5 ∧ w.cell? ⟨g, 6, none⟩ = some x6 ∧ w.cell? ⟨g, 7, none⟩ = some x7 ∧ w.cell? ⟨g, 8, none⟩ = some x8 ∧ w.cell? ⟨g, 9, none⟩ = some x9 ∧ w.cell? ⟨g, 10, none⟩ = some xa ∧ w.cell? ⟨g, 11, none⟩ = some xb ∧ w.cell? ⟨g, 12, none⟩ = some xc ∧ w.cell? ⟨g, 13, none⟩ = some xd ∧ w.cell? ⟨g, 14, none⟩ = some xe ∧ w.cell? ⟨g, 15, none⟩ = some xf :=
  ⟨h.cell 0, h.cell 1, h.cell 2, h.cell 3, h.cell 4, h.cell 5, h.cell 6, h.cell 7, h.cell 8, h.cell 9, h.cell 10, h.cell 11, h.cell 12, h.cell 13, h.cell 14, h.cell 15⟩
theorem blk5 {w : World} {g : Nat} {t : TypeId} {x0 x1 x2 x3 x4 : Value} (h : Blk w g t #[x0, x1, x2, x3, x4]) : w.cell? ⟨g, 0, none⟩ = some x0 ∧ w.cell? ⟨g, 1, none⟩ = some x1 ∧ w.cell? ⟨g, 2, none⟩ = some x2 ∧ w.cell? ⟨g, 3, none⟩ = some x3 ∧ w.cell? ⟨g, 4, none⟩ = some x4 :=
  ⟨h.cell 0, h.cell 1, h.cell 2, h.cell 3, h.cell 4⟩
/-- the low half of a number -/
theorem and32 (x : Int) : bits .and .i64 x 4294967295 = x % 4294967296 := by
  simp only [bits, BitVec.toNat_and, BitVec.toNat_ofInt]
  rw [IntKind.wrap_i64]
  have h1 : (4294967295 % ((2 ^ IntKind.i64.bits : Nat) : Int)).toNat = 2 ^ 32 - 1 := by decide
  rw [h1, Nat.and_two_pow_sub_one_eq_mod]
  have h2 : ((2 ^ IntKind.i64.bits : Nat) : Int) = 18446744073709551616 := by decide
  rw [h2]
  omega
set_option maxHeartbeats 1000000 in
theorem exNew (a b n : Int) (w : World) : Calls Try.prog 8 #[.int .i64 a, .int .i64 b, .int .i64 n] w fun r w' => r = .returned (.pointer (some ⟨w.heap.size, 0, none⟩)) ∧ w' = w.alloc (.cells (exA a b (n % 4294967296) false false false false false false 0 true true true (n % 4294967296) (.slice none 0 0) (.pointer none)) 65) := by
  have hand := and32 n
  go_enter Try.func8, Try.ntmps8
  go_wp2
  go_ret
  exact ⟨rfl, rfl⟩
theorem gr_trans {a b c : World} {row : Option Nat} (h : a.grownBy b row) (k : b.grownBy c row) : a.grownBy c row :=
  ⟨k.os.trans h.os, k.tape.trans h.tape, k.output.trans h.output, Nat.le_trans h.size k.size, fun i hi hne => (k.block i (Nat.lt_of_lt_of_le hi h.size) hne).trans (h.block i hi hne)⟩
theorem gr_below {w w' : World} {row : Option Nat} (h : Below w.heap.size w w') : w.grownBy w' row := ⟨h.os, h.tape, h.output, h.size, fun k hk _ => h.block k hk⟩
theorem gr_set {w w' : World} {p : Nat} (h : w.grownBy w' (some p)) (i : Nat) (u : Value) : w.grownBy (w'.setCell ⟨p, i, none⟩ u) (some p) := gr_trans h (grown_set w' p i u)
set_option maxHeartbeats 4000000 in
set_option maxRecDepth 100000 in
theorem say_w (p s : Nat) (v : Value) (a b n : Int) (l1 l2 l3 : Bool) (l4 : Int) (s1 s2 s3 : Bool) (s4 : Int) (hv : Value) (w : World) (hs : SmAt w s v 0 []) (hp : Blk w p 65 (exA a b n true false false l1 l2 l3 l4 s1 s2 s3 s4 hv (.pointer (some ⟨s, 0, none⟩)))) :
    Calls Try.prog 35 #[.pointer (some ⟨p, 0, none⟩)] w fun r w' => r = .returned (.tuple #[]) ∧ Blk w' p 65 (exA a b n true false false l1 l2 l3 l4 false false false n (.slice none 0 0) (.pointer (some ⟨s, 0, none⟩))) ∧ w.grownBy w' (some p) := by
  have HP := Lib.hid hp
  have CM := Lib.hid (fun dd os => Calls.regrown_of (w := w) (d := dd) (os := os) (SuMore_none s v _ (hs.keep (below_regrown w dd os))))
  have CP := Lib.hid (fun dd os => Calls.regrown_of (w := w) (d := dd) (os := os) (SuPiece_none s v _ (hs.keep (below_regrown w dd os))))
  obtain ⟨x0, x1, x2, x3, x4, x5, x6, x7, x8, x9, xa, xb, xc, xd, xe, xf⟩ := blk16 hp
  have x2 := cell_regrown x2
  have x4 := cell_regrown x4
  have xf := cell_regrown xf
  clear hs hp x0 x1 x3 x5 x6 x7 x8 x9 xa xb xc xd xe
  go_enter Try.func35, Try.ntmps35
  go_wp2_with fail
  refine wp_below_tail 22 (by kernel_rfl) (by kernel_rfl) ?_
  simp only [List.take_succ_cons, List.take_zero, List.drop_succ_cons, List.drop_zero]
  repeat (go_big_quiet_step (first | exact CM.out _ _ | exact CP.out _ _))
  refine wpQuiet_nil ?_
  rintro w3 ⟨⟨dq, osq⟩, hw3⟩
  have hb3 := below_regrown w dq osq
  rw [← hw3] at hb3
  clear hw3 x2 x4 xf CM CP
  have hp3 := HP.out.below hb3 HP.out.lt
  have HP3 := Lib.hid hp3
  have Hb3 := Lib.hid (gr_below (row := some p) hb3)
  obtain ⟨x0, x1, x2, x3, x4, x5, x6, x7, x8, x9, xa, xb, xc, xd, xe, xf⟩ := blk16 hp3
  have hfz := fun i => hp3.frozen i
  clear hb3 hp3
  go_wp2
  refine bodyPost_end (results_none rfl _ _ _) rfl ?_
  have hset := ((((HP3.out.set_ 10 (.bool false)).set_ 11 (.bool false)).set_ 12 (.bool false)).set_ 13 (.int .i64 n)).set_ 14 (.slice none 0 0)
  exact ⟨rfl, by simpa [exA] using hset, gr_set (gr_set (gr_set (gr_set (gr_set Hb3.out 10 _) 11 _) 12 _) 13 _) 14 _⟩

theorem SmAt.set_far {W : World} {s : Nat} {v : Value} {at_ : Int} {H : List Hd} (h : SmAt W s v at_ H) {p : Nat} (hp : p < s) (i : Nat) (u : Value) : SmAt (W.setCell ⟨p, i, none⟩ u) s v at_ H :=
  ⟨h.ptr.grown (grown_set W p i u) (fun e => by injection e with e; omega), h.own.set_ (by show p < s + 1; omega) u⟩
set_option maxHeartbeats 8000000 in
set_option maxRecDepth 100000 in
/-- an exchange of 1 with 2 takes the first piece: it follows -/
theorem begin_w (p : Nat) (w : World) (hp : Blk w p 65 (exA 1 2 5 false false false false false false 0 true true true 5 (.slice none 0 0) (.pointer none))) :
    Calls Try.prog 24 #[.pointer (some ⟨p, 0, none⟩), .agg #[.bool true, .bool true, .bool true, .int .i64 9, .slice none 0 0], .slice none 0 0] w fun r w' => r = .returned (.int .i64 2) ∧ (∃ s, Blk w' p 65 (exA 1 2 9 true false false false false false 0 false false false 9 (.slice none 0 0) (.pointer (some ⟨s, 0, none⟩)))) ∧ w.grownBy w' (some p) := by
  obtain ⟨w1, hw1⟩ : ∃ w1, w.alloc (.cells #[.bool true, .bool true, .bool true, .int .i64 9, .slice none 0 0] 33) = w1 := ⟨_, rfl⟩
  obtain ⟨g1, hg1⟩ : ∃ g1, w.heap.size = g1 := ⟨_, rfl⟩
  have hd := Blk.new w 33 #[.bool true, .bool true, .bool true, .int .i64 9, .slice none 0 0]
  have hb1 := below_new w (.cells #[.bool true, .bool true, .bool true, .int .i64 9, .slice none 0 0] 33)
  rw [hw1, hg1] at hd
  rw [hw1] at hb1
  have HP1 := Lib.hid (hp.below hb1 hp.lt)
  have Hb1 := Lib.hid (gr_below (row := some p) hb1)
  have Hpg := Lib.hid (show p ≠ g1 from by have := hp.lt; omega)
  have HD := Lib.hid hd
  obtain ⟨x0, x1, x2, x3, x4, x5, x6, x7, x8, x9, xa, xb, xc, xd, xe, xf⟩ := blk16 HP1.out
  obtain ⟨d0, d1, d2, d3, d4⟩ := blk5 hd
  clear hp hb1 hd
  go_enter Try.func24, Try.ntmps24
  go_wp2
  go_quiet (fail)
  have hb2 := below_drewN (Below.refl w1.heap.size w1) nq
  obtain ⟨w2, hw2⟩ : ∃ w2, w1.drewN nq = w2 := ⟨_, rfl⟩
  rw [hw2] at hb2 ⊢
  have HP2 := Lib.hid (HP1.out.below hb2 HP1.out.lt)
  have Hb2 := Lib.hid (gr_trans Hb1.out (gr_below hb2))
  have hd2 := HD.out.below hb2 HD.out.lt
  clear x0 x1 x2 x3 x4 x5 x6 x7 x8 x9 xa xb xc xd xe xf d0 d1 d2 d3 d4 hb2 hw2
  obtain ⟨x0, x1, x2, x3, x4, x5, x6, x7, x8, x9, xa, xb, xc, xd, xe, xf⟩ := blk16 HP2.out
  obtain ⟨d0, d1, d2, d3, d4⟩ := blk5 hd2
  have hfz := fun i => HP2.out.frozen i
  clear hd2
  go_wp2_with fail
  have hp3 : Blk (w2.setCell ⟨p, 2, none⟩ (.int .i64 9)) p 65 (exA 1 2 9 false false false false false false 0 true true true 5 (.slice none 0 0) (.pointer none)) := by simpa [exA] using HP2.out.set_ 2 (.int .i64 9)
  have HP3 := Lib.hid hp3
  have Hb3 := Lib.hid (gr_set Hb2.out 2 (.int .i64 9))
  clear x0 x1 x2 x3 x4 x5 x6 x7 x8 x9 xa xb xc xd xe xf d0 d1 d2 d3 d4 hp3 hfz
  with_reducible refine Calls.mono (SuNew_none _) ?_
  rintro r w4 ⟨rfl, ⟨v4, hs4⟩, hb4⟩
  obtain ⟨s4, hs4e⟩ : ∃ s4, (w2.setCell ⟨p, 2, none⟩ (.int .i64 9)).heap.size = s4 := ⟨_, rfl⟩
  rw [hs4e] at hs4 ⊢
  have hp4 := HP3.out.below hb4 HP3.out.lt
  have HP4 := Lib.hid hp4
  have Hps := Lib.hid (show p < s4 from by have := HP3.out.lt; omega)
  have Hs4 := Lib.hid hs4
  have Hb4 := Lib.hid (gr_trans Hb3.out (gr_below hb4))
  obtain ⟨x0, x1, x2, x3, x4, x5, x6, x7, x8, x9, xa, xb, xc, xd, xe, xf⟩ := blk16 hp4
  have hfz := fun i => hp4.frozen i
  clear hp4 hs4 hb4 hs4e
  go_wp2_with fail
  have hp5 : Blk ((w4.setCell ⟨p, 3, none⟩ (.bool true)).setCell ⟨p, 15, none⟩ (.pointer (some ⟨s4, 0, none⟩))) p 65 (exA 1 2 9 true false false false false false 0 true true true 5 (.slice none 0 0) (.pointer (some ⟨s4, 0, none⟩))) := by simpa [exA] using (HP4.out.set_ 3 (.bool true)).set_ 15 (.pointer (some ⟨s4, 0, none⟩))
  have HSay := Lib.hid (say_w p s4 v4 1 2 9 false false false 0 true true true 5 (.slice none 0 0) _ ((Hs4.out.set_far Hps.out 3 (.bool true)).set_far Hps.out 15 (.pointer (some ⟨s4, 0, none⟩))) hp5)
  have Hb5 := Lib.hid (gr_set (gr_set Hb4.out 3 (.bool true)) 15 (.pointer (some ⟨s4, 0, none⟩)))
  clear hp5 hfz x0 x1 x2 x3 x4 x5 x6 x7 x8 x9 xa xb xc xd xe xf
  with_reducible refine Calls.mono HSay.out ?_
  rintro r w6 ⟨rfl, hp6, hb6⟩
  have HP6 := Lib.hid hp6
  have Hb6 := Lib.hid (gr_trans Hb5.out hb6)
  clear hp6 hb6
  go_wp2
  go_ret
  exact ⟨rfl, ⟨s4, HP6.out⟩, Hb6.out⟩

end Go.Proofs.Ytfpjkeddcagfcaa

/-
  A row of heads: a cell, or a head, of it set.
-/
namespace Go.Proofs.Ytfpjkeddcagfcaa
open Go.RowKit

theorem set_flatH13 (l : List Hd) (k : Nat) (c : Hd) (hk : k < l.length) :
    (l.set k c).flatMap Hd.cells = (((((((l.flatMap Hd.cells).set (k * 7) (.int .i64 c.age)).set (k * 7 + 1) (.int .i64 c.kind)).set (k * 7 + 2) (.int .i64 c.id)).set (k * 7 + 3) (.int .i64 c.adv)).set (k * 7 + 4) (.int .i64 c.seq)).set (k * 7 + 5) (.int .i64 c.sum)).set (k * 7 + 6) (.int .i64 c.long) := by
  induction l generalizing k with
  | nil => simp at hk
  | cons d l ih =>
    cases k with
    | zero => simp [Hd.cells]
    | succ k =>
      have h := ih k (by simpa using hk)
      simp only [List.set_cons_succ, List.flatMap_cons, h]
      have h4 : d.cells.length = 7 := rfl
      rw [List.set_append_right _ _ (by omega), List.set_append_right _ _ (by omega), List.set_append_right _ _ (by omega), List.set_append_right _ _ (by omega), List.set_append_right _ _ (by omega), List.set_append_right _ _ (by omega), List.set_append_right _ _ (by omega)]
      simp only [h4, show (k + 1) * 7 - 7 = k * 7 by omega, show (k + 1) * 7 + 1 - 7 = k * 7 + 1 by omega, show (k + 1) * 7 + 2 - 7 = k * 7 + 2 by omega, show (k + 1) * 7 + 3 - 7 = k * 7 + 3 by omega, show (k + 1) * 7 + 4 - 7 = k * 7 + 4 by omega, show (k + 1) * 7 + 5 - 7 = k * 7 + 5 by omega, show (k + 1) * 7 + 6 - 7 = k * 7 + 6 by omega]
section
variable {w : World} {B g cap n : Nat} {l : List Hd}
theorem OwnH13.set7 (h : OwnR 56 7 Hd.cells w B (.slice (some ⟨g, 0, none⟩) n cap) l) (hn : n = l.length) (k : Nat) (hk : k < l.length) (c : Hd) :
    OwnR 56 7 Hd.cells (((((((w.setCell ⟨g, k * 7, none⟩ (.int .i64 c.age)).setCell ⟨g, k * 7 + 1, none⟩ (.int .i64 c.kind)).setCell ⟨g, k * 7 + 2, none⟩ (.int .i64 c.id)).setCell ⟨g, k * 7 + 3, none⟩ (.int .i64 c.adv)).setCell ⟨g, k * 7 + 4, none⟩ (.int .i64 c.seq)).setCell ⟨g, k * 7 + 5, none⟩ (.int .i64 c.sum)).setCell ⟨g, k * 7 + 6, none⟩ (.int .i64 c.long)) B (.slice (some ⟨g, 0, none⟩) n cap) (l.set k c) := by
  subst hn
  unfold OwnR
  rw [set_flatH13 l k c hk, List.length_set]
  exact (((((((World.ownsRow.stored h (k * 7) (.int .i64 c.age)).1.stored (k * 7 + 1) (.int .i64 c.kind)).1.stored (k * 7 + 2) (.int .i64 c.id)).1.stored (k * 7 + 3) (.int .i64 c.adv)).1.stored (k * 7 + 4) (.int .i64 c.seq)).1.stored (k * 7 + 5) (.int .i64 c.sum)).1.stored (k * 7 + 6) (.int .i64 c.long)).1

end
section
variable {w w' : World} {B g cap n : Nat} {l : List Hd} {v0 : Value}
theorem OwnH13.frozen (h : OwnR 56 7 Hd.cells w B (.slice (some ⟨g, 0, none⟩) n cap) l) (i : Nat) : w.frozen? ⟨g, i, none⟩ = false := by
  rcases h.2 with ⟨hv, -⟩ | ⟨g', cap', cur, hv, -, hb, -⟩
  · cases hv
  · simp only [Value.slice.injEq, Option.some.injEq, Addr.mk.injEq, and_true] at hv
    obtain ⟨rfl, -, -⟩ := hv
    simp [World.frozen?, hb]
theorem grown7 (w : World) (g o : Nat) (a b c d e f x : Value) : w.grownBy (((((((w.setCell ⟨g, o, none⟩ a).setCell ⟨g, o + 1, none⟩ b).setCell ⟨g, o + 2, none⟩ c).setCell ⟨g, o + 3, none⟩ d).setCell ⟨g, o + 4, none⟩ e).setCell ⟨g, o + 5, none⟩ f).setCell ⟨g, o + 6, none⟩ x) (some g) :=
  (((((((World.grownBy.refl w (some g)).set rfl _).set rfl _).set rfl _).set rfl _).set rfl _).set rfl _).set rfl _
theorem below_set7k (h : Below B w w') (hg : B ≤ g) (o : Nat) (a b c d e f x : Value) : Below B w (((((((w'.setCell ⟨g, o, none⟩ a).setCell ⟨g, o + 1, none⟩ b).setCell ⟨g, o + 2, none⟩ c).setCell ⟨g, o + 3, none⟩ d).setCell ⟨g, o + 4, none⟩ e).setCell ⟨g, o + 5, none⟩ f).setCell ⟨g, o + 6, none⟩ x) :=
  ((((((h.setCell hg _).setCell hg _).setCell hg _).setCell hg _).setCell hg _).setCell hg _).setCell hg _
theorem row_own7 (h : OwnR 56 7 Hd.cells w B v0 l) (k : Nat) (hk : k < l.length) : ∃ g c, v0 = .slice (some ⟨g, 0, none⟩) l.length c ∧ w.cell? ⟨g, k * 7, none⟩ = some (.int .i64 l[k].age) ∧ w.cell? ⟨g, k * 7 + 1, none⟩ = some (.int .i64 l[k].kind) ∧ w.cell? ⟨g, k * 7 + 2, none⟩ = some (.int .i64 l[k].id) ∧ w.cell? ⟨g, k * 7 + 3, none⟩ = some (.int .i64 l[k].adv) ∧ w.cell? ⟨g, k * 7 + 4, none⟩ = some (.int .i64 l[k].seq) ∧ w.cell? ⟨g, k * 7 + 5, none⟩ = some (.int .i64 l[k].sum) ∧ w.cell? ⟨g, k * 7 + 6, none⟩ = some (.int .i64 l[k].long) := by
  rcases h.shape2 with ⟨-, hn⟩ | ⟨g, c, rfl, hc⟩
  · subst hn; simp at hk
  · obtain ⟨b, o, e, -, hcl⟩ := (OwnR.rows (C := 7) (cells := Hd.cells) (fun _ => rfl) h).2 (by omega)
    injection e with e
    injection e with e1 e2
    subst e1 e2
    have z := fun i u hi hu => hcl k hk i u hi hu
    simp only [Nat.zero_add] at z
    exact ⟨g, c, rfl, by simpa using z 0 _ (by omega) rfl, z 1 _ (by omega) rfl, z 2 _ (by omega) rfl, z 3 _ (by omega) rfl, z 4 _ (by omega) rfl, z 5 _ (by omega) rfl, z 6 _ (by omega) rfl⟩
theorem row_hd7 {A : Option Addr} (h : RowsAt 7 Hd.cells w B A l) (k : Nat) (hk : k < l.length) : ∃ b o, A = some ⟨b, o, none⟩ ∧ b < B ∧ w.cell? ⟨b, o + k * 7, none⟩ = some (.int .i64 l[k].age) ∧ w.cell? ⟨b, o + k * 7 + 1, none⟩ = some (.int .i64 l[k].kind) ∧ w.cell? ⟨b, o + k * 7 + 2, none⟩ = some (.int .i64 l[k].id) ∧ w.cell? ⟨b, o + k * 7 + 3, none⟩ = some (.int .i64 l[k].adv) ∧ w.cell? ⟨b, o + k * 7 + 4, none⟩ = some (.int .i64 l[k].seq) ∧ w.cell? ⟨b, o + k * 7 + 5, none⟩ = some (.int .i64 l[k].sum) ∧ w.cell? ⟨b, o + k * 7 + 6, none⟩ = some (.int .i64 l[k].long) := by
  obtain ⟨b, o, e, hb, hc⟩ := h (by omega)
  exact ⟨b, o, e, hb, by simpa using hc k hk 0 _ (by omega) rfl, hc k hk 1 _ (by omega) rfl, hc k hk 2 _ (by omega) rfl, hc k hk 3 _ (by omega) rfl, hc k hk 4 _ (by omega) rfl, hc k hk 5 _ (by omega) rfl, hc k hk 6 _ (by omega) rfl⟩
end

end Go.Proofs.Ytfpjkeddcagfcaa

/-
  Layer 13: a summary's pieces, one behind the other.
-/
namespace Go.Proofs.Ytfpjkeddcagfcaa
open Go.RowKit Go.Sort

/-- the place of the next piece -/
def nextAt (a n : Nat) : Nat := if a + 3 < n then a + 3 else n
def pieceAt (H : List Hd) (a : Nat) : List Hd := (H.drop a).take 3
theorem piece_len (H : List Hd) (a : Nat) (_ha : a ≤ H.length) : (pieceAt H a).length = nextAt a H.length - a := by
  unfold pieceAt nextAt
  rw [List.length_take, List.length_drop]
  split <;> omega
theorem next_ge {a n : Nat} (h : a ≤ n) : a ≤ nextAt a n ∧ nextAt a n ≤ n := by unfold nextAt; split <;> omega
theorem row_from {w : World} {B : Nat} {g : Nat} {H : List Hd} {a : Nat} (h : RowsAt 7 Hd.cells w B (some ⟨g, 0, none⟩) H) : RowsAt 7 Hd.cells w B (some ⟨g, a * 7, none⟩) (pieceAt H a) := by
  intro h0
  unfold pieceAt at h0 ⊢
  rw [List.length_take, List.length_drop] at h0
  obtain ⟨b, o, e, hb, hc⟩ := h (by omega)
  injection e with e
  injection e with e1 e2
  subst e1 e2
  refine ⟨g, a * 7, rfl, hb, fun k hk i u hi hu => ?_⟩
  have hk2 : a + k < H.length := by rw [List.length_take, List.length_drop] at hk; omega
  have := hc (a + k) hk2 i u hi (by rw [← hu, List.getElem_take, List.getElem_drop])
  rw [← this]
  congr 2
  omega
theorem more_nextB {a n : Nat} : decide (nextAt a n < n) = decide (a + 3 < n) := by unfold nextAt; split <;> simp_all
set_option maxHeartbeats 4000000 in
set_option maxRecDepth 100000 in
theorem SuPiece_any (s : Nat) (v : Value) (a : Nat) (H : List Hd) (w : World) (h : SmAt w s v a H) (ha : a ≤ H.length) (hl : H.length ≤ 2 ^ 20) : Calls Try.prog 42 #[.pointer (some ⟨s, 0, none⟩)] w fun r w' => (∃ u, r = .returned u ∧ OwnR 56 7 Hd.cells w' w.heap.size u (pieceAt H a)) ∧ Below w.heap.size w w' := by
  obtain ⟨n, hn⟩ : ∃ n, H.length = n := ⟨_, rfl⟩
  obtain ⟨e, he⟩ : ∃ e, nextAt a n = e := ⟨_, rfl⟩
  have hpl := piece_len H a ha
  rw [hn] at ha hl hpl
  have hge := next_ge ha
  rw [he] at hge hpl
  have HS := Lib.hid h
  obtain ⟨c0, c1⟩ : _ ∧ _ := ⟨h.ptr.cell 0, h.ptr.cell 1⟩
  simp only [List.getElem?_toArray, List.getElem?_cons_zero, List.getElem?_cons_succ] at c0 c1
  have hai : (a : Int) ≤ 1048576 := by omega
  have hni : (n : Int) ≤ 1048576 := by omega
  have hge1 : (a : Int) ≤ (e : Int) := by omega
  have hge2 : (e : Int) ≤ (n : Int) := by omega
  obtain ⟨k, hk⟩ : ∃ k, e - a = k := ⟨_, rfl⟩
  have hki : (e : Int) - (a : Int) = (k : Int) := by omega
  have HN := Lib.hid hn
  have HE := Lib.hid (fun q => OwnR.nil (e := 56) (C := 7) (cells := Hd.cells) (w.drewN q) w.heap.size)
  by_cases hz : a = n
  · have hp0 : pieceAt H a = [] := by unfold pieceAt; rw [hz, ← hn, List.drop_length]; rfl
    rw [hp0]
    have Hpl := Lib.hid (show ([] : List Hd).length = 0 from rfl)
    subst hz
    rcases h.own.shape2 with ⟨hv, h0⟩ | ⟨g, cap, hv, hcap⟩
    · subst h0
      obtain rfl : a = 0 := by simpa using hn.symm
      subst hv
      have HR := Lib.hid (fun q => (show RowsAt 7 Hd.cells (w.drewN q) (w.drewN q).heap.size none ([] : List Hd) from fun h0 => absurd h0 (by simp)))
      clear h hn he hpl hge ha hl hk hp0
      simp only [Int.ofNat_zero] at *
      go_enter Try.func42, Try.ntmps42
      go_wp2_with fail
      refine wp_drew_tail 19 (by kernel_rfl) (by kernel_rfl) ?_
      simp only [List.take_succ_cons, List.take_zero, List.drop_succ_cons, List.drop_zero]
      repeat (go_big_quiet_step (fail))
      refine wpQuiet_nil ?_
      rintro w3 ⟨dq, rfl⟩
      go_wp2
      go_ret
      exact ⟨⟨_, rfl, OwnR.nil _ _⟩, below_drewN (Below.refl _ _) dq⟩
    · subst hv
      rw [hn] at c0 hcap
      have hcm : (a : Int) ≤ (cap : Int) := by omega
      by_cases hca : cap = a
      · subst hca
        have HR := Lib.hid (fun q => (show RowsAt 7 Hd.cells (w.drewN q) (w.drewN q).heap.size (some ⟨g, 0, none⟩) ([] : List Hd) from fun h0 => absurd h0 (by simp)))
        clear h hn he hpl hge ha hl hk hp0 hcap
        go_enter Try.func42, Try.ntmps42
        go_wp2_with fail
        refine wp_drew_tail 19 (by kernel_rfl) (by kernel_rfl) ?_
        simp only [List.take_succ_cons, List.take_zero, List.drop_succ_cons, List.drop_zero]
        repeat (go_big_quiet_step (fail))
        refine wpQuiet_nil ?_
        rintro w3 ⟨dq, rfl⟩
        go_wp2
        go_ret
        exact ⟨⟨_, rfl, OwnR.nil _ _⟩, below_drewN (Below.refl _ _) dq⟩
      · have HR := Lib.hid (fun q => (show RowsAt 7 Hd.cells (w.drewN q) (w.drewN q).heap.size (some ⟨g, a * 7, none⟩) ([] : List Hd) from fun h0 => absurd h0 (by simp)))
        clear h hn he hpl hge ha hl hk hp0 hcap
        go_enter Try.func42, Try.ntmps42
        go_wp2_with fail
        refine wp_drew_tail 19 (by kernel_rfl) (by kernel_rfl) ?_
        simp only [List.take_succ_cons, List.take_zero, List.drop_succ_cons, List.drop_zero]
        repeat (go_big_quiet_step (fail))
        refine wpQuiet_nil ?_
        rintro w3 ⟨dq, rfl⟩
        go_wp2
        go_ret
        exact ⟨⟨_, rfl, OwnR.nil _ _⟩, below_drewN (Below.refl _ _) dq⟩
  · have Hpl := Lib.hid (show (pieceAt H a).length = e - a by omega)
    obtain ⟨g, cap, hv, hcap⟩ : ∃ g c, v = .slice (some ⟨g, 0, none⟩) H.length c ∧ H.length ≤ c := by
      rcases h.own.shape2 with ⟨hv, h0⟩ | h0
      · subst h0; simp at hn; omega
      · exact h0
    subst hv
    rw [hn] at c0 hcap
    have HR := Lib.hid (fun q => (show RowsAt 7 Hd.cells (w.drewN q) (w.drewN q).heap.size (some ⟨g, a * 7, none⟩) (pieceAt H a) from row_from (OwnR.rows (C := 7) (cells := Hd.cells) (fun _ => rfl) (HS.out.own.below (below_drewN (Below.refl _ _) q))).2))
    have hcm : (e : Int) ≤ (cap : Int) := by omega
    have hca : ¬ cap = a := by omega
    by_cases hc : a + 3 < n
    · have he2 : (a : Int) + 3 = (e : Int) := by rw [← he]; unfold nextAt; rw [if_pos hc]; omega
      have hci : (e : Int) < (n : Int) := by omega
      clear h hn he hpl hge ha hl hk hcap hc
      go_enter Try.func42, Try.ntmps42
      go_wp2_with fail
      refine wp_drew_tail 19 (by kernel_rfl) (by kernel_rfl) ?_
      simp only [List.take_succ_cons, List.take_zero, List.drop_succ_cons, List.drop_zero]
      repeat (go_big_quiet_step (fail))
      refine wpQuiet_nil ?_
      rintro w3 ⟨dq, rfl⟩
      go_wp2_with (at_builtin; (refine app_rows (e := 56) Hd.cells (fun _ => rfl) (by decide) (bytes := 56) (by decide) infoHd13 rfl Try.underlying31 onesHd13 (by rfl) _ _ (by rfl) w.heap.size _ [] (by rfl) (HE.out _) (some ⟨g, a * 7, none⟩) _ (e - a) (pieceAt H a) Hpl.out.symm (by rfl) (HR.out _) (by have := Hpl.out; simp; omega) (by simp [World.drewN]) ?_); intro v5 w5 hown5 hg5 hor5; have O5 := Lib.hid hown5; have G5 := Lib.hid hg5; clear hown5 hg5 hor5; obtain ⟨A5, c5, hv5⟩ := O5.out.shape; subst hv5)
      go_ret
      exact ⟨⟨_, rfl, by simpa using O5.out⟩, (below_drewN (Below.refl _ _) dq).grown G5.out (by simp [World.drewN]) (fun m e => by cases e)⟩
    · have he2 : e = n := by rw [← he]; unfold nextAt; rw [if_neg hc]
      subst he2
      by_cases hc2 : a + 3 = e
      · have he2 : (a : Int) + 3 = (e : Int) := by omega
        clear h hn he hpl hge ha hl hk hcap hc hc2
        go_enter Try.func42, Try.ntmps42
        go_wp2_with fail
        refine wp_drew_tail 19 (by kernel_rfl) (by kernel_rfl) ?_
        simp only [List.take_succ_cons, List.take_zero, List.drop_succ_cons, List.drop_zero]
        repeat (go_big_quiet_step (fail))
        refine wpQuiet_nil ?_
        rintro w3 ⟨dq, rfl⟩
        go_wp2_with (at_builtin; (refine app_rows (e := 56) Hd.cells (fun _ => rfl) (by decide) (bytes := 56) (by decide) infoHd13 rfl Try.underlying31 onesHd13 (by rfl) _ _ (by rfl) w.heap.size _ [] (by rfl) (HE.out _) (some ⟨g, a * 7, none⟩) _ (e - a) (pieceAt H a) Hpl.out.symm (by rfl) (HR.out _) (by have := Hpl.out; simp; omega) (by simp [World.drewN]) ?_); intro v5 w5 hown5 hg5 hor5; have O5 := Lib.hid hown5; have G5 := Lib.hid hg5; clear hown5 hg5 hor5; obtain ⟨A5, c5, hv5⟩ := O5.out.shape; subst hv5)
        go_ret
        exact ⟨⟨_, rfl, by simpa using O5.out⟩, (below_drewN (Below.refl _ _) dq).grown G5.out (by simp [World.drewN]) (fun m e => by cases e)⟩
      · have hci : (e : Int) < (a : Int) + 3 := by omega
        clear h hn he hpl hge ha hl hk hcap hc hc2
        go_enter Try.func42, Try.ntmps42
        go_wp2_with fail
        refine wp_drew_tail 19 (by kernel_rfl) (by kernel_rfl) ?_
        simp only [List.take_succ_cons, List.take_zero, List.drop_succ_cons, List.drop_zero]
        repeat (go_big_quiet_step (fail))
        refine wpQuiet_nil ?_
        rintro w3 ⟨dq, rfl⟩
        go_wp2_with (at_builtin; (refine app_rows (e := 56) Hd.cells (fun _ => rfl) (by decide) (bytes := 56) (by decide) infoHd13 rfl Try.underlying31 onesHd13 (by rfl) _ _ (by rfl) w.heap.size _ [] (by rfl) (HE.out _) (some ⟨g, a * 7, none⟩) _ (e - a) (pieceAt H a) Hpl.out.symm (by rfl) (HR.out _) (by have := Hpl.out; simp; omega) (by simp [World.drewN]) ?_); intro v5 w5 hown5 hg5 hor5; have O5 := Lib.hid hown5; have G5 := Lib.hid hg5; clear hown5 hg5 hor5; obtain ⟨A5, c5, hv5⟩ := O5.out.shape; subst hv5)
        go_ret
        exact ⟨⟨_, rfl, by simpa using O5.out⟩, (below_drewN (Below.refl _ _) dq).grown G5.out (by simp [World.drewN]) (fun m e => by cases e)⟩
set_option maxHeartbeats 4000000 in
set_option maxRecDepth 100000 in
theorem SuMore_any (s : Nat) (v : Value) (a : Nat) (H : List Hd) (w : World) (h : SmAt w s v a H) (ha : a ≤ H.length) (hl : H.length ≤ 2 ^ 20) : Calls Try.prog 41 #[.pointer (some ⟨s, 0, none⟩)] w fun r w' => r = .returned (.bool (decide (a + 3 < H.length))) ∧ Below w.heap.size w w' := by
  obtain ⟨A, cap, hv⟩ := h.own.shape
  obtain ⟨c0, c1⟩ : _ ∧ _ := ⟨h.ptr.cell 0, h.ptr.cell 1⟩
  simp only [List.getElem?_toArray, List.getElem?_cons_zero, List.getElem?_cons_succ] at c0 c1
  subst hv
  obtain ⟨n, hn⟩ : ∃ n, H.length = n := ⟨_, rfl⟩
  rw [hn] at ha hl c0 ⊢
  have hai : (a : Int) ≤ 1048576 := by omega
  have hni : (n : Int) ≤ 1048576 := by omega
  clear h hn
  go_enter Try.func41, Try.ntmps41
  go_wp2
  go_quiet (fail)
  go_wp2
  go_ret
  refine ⟨?_, below_drewN (Below.refl _ _) _⟩
  have e : decide ((a : Int) + 3 < (n : Int)) = decide (a + 3 < n) := by by_cases h : a + 3 < n <;> simp [h] <;> omega
  rw [← e]
  rfl
set_option maxHeartbeats 4000000 in
set_option maxRecDepth 100000 in
theorem SuStep_any (s : Nat) (v : Value) (a : Nat) (H : List Hd) (w : World) (h : SmAt w s v a H) (ha : a ≤ H.length) (hl : H.length ≤ 2 ^ 20) : Calls Try.prog 36 #[.pointer (some ⟨s, 0, none⟩)] w fun r w' => r = .returned (.bool (decide (a + 3 < H.length))) ∧ SmAt w' s v (nextAt a H.length : Nat) H ∧ w.grownBy w' (some s) := by
  have HM := Lib.hid (SuMore_any s v a H w h ha hl)
  obtain ⟨A, cap, hv⟩ := h.own.shape
  obtain ⟨n, hn⟩ : ∃ n, H.length = n := ⟨_, rfl⟩
  obtain ⟨e, he⟩ : ∃ e, nextAt a n = e := ⟨_, rfl⟩
  rw [hn] at ha hl HM ⊢
  rw [he]
  have HS := Lib.hid h
  have Hv := Lib.hid hv
  have hai : (a : Int) ≤ 1048576 := by omega
  have hni : (n : Int) ≤ 1048576 := by omega
  have Hn := Lib.hid hn
  clear h hv
  go_enter Try.func36, Try.ntmps36
  go_wp2_with fail
  with_reducible refine Calls.mono HM.out ?_
  rintro r w1 ⟨rfl, hb1⟩
  have hs1 := HS.out.keep hb1
  have hsv := Hv.out
  rw [hn] at hsv
  obtain ⟨c0, c1⟩ : _ ∧ _ := ⟨hs1.ptr.cell 0, hs1.ptr.cell 1⟩
  simp only [List.getElem?_toArray, List.getElem?_cons_zero, List.getElem?_cons_succ] at c0 c1
  rw [hsv] at c0
  have hf := hs1.ptr.frozen 1
  have hK := Lib.hid (fun q => hs1.keep (below_drewN (Below.refl _ _) q))
  have hG := Lib.hid (fun q (u : Value) => grown_trans (a := w) (c := w1.drewN q) (d := (w1.drewN q).setCell ⟨s, 1, none⟩ u) (row := some s) (grown_below (World.grownBy.refl w (some s)) (below_trans hb1 hb1.size (below_drewN (Below.refl _ _) q))) (grown_set _ _ _ _))
  by_cases hc : a + 3 < n
  · have he2 : (a : Int) + 3 = (e : Int) := by rw [← he]; unfold nextAt; rw [if_pos hc]; omega
    have hci : (e : Int) < (n : Int) := by omega
    have hcd : decide (a + 3 < n) = true := decide_eq_true hc
    rw [hcd]
    clear hn hsv hs1 hb1 he ha hl hc
    go_wp2_with fail
    refine wp_drew_tail 14 (by kernel_rfl) (by kernel_rfl) ?_
    simp only [List.take_succ_cons, List.take_zero, List.drop_succ_cons, List.drop_zero]
    repeat (go_big_quiet_step (fail))
    refine wpQuiet_nil ?_
    rintro w3 ⟨dq, rfl⟩
    go_wp2
    go_ret
    refine ⟨by first | rfl | (rw [hcd]; rfl), ⟨?_, ?_⟩, ?_⟩
    · have := ((hK.out dq).ptr.set_ 1 (.int .i64 (e : Int))).to (cs' := #[v, .int .i64 (e : Int)]) (by simp)
      exact this
    · exact (hK.out dq).own.set_ (by simp) _
    · exact hG.out dq _
  · have he2 : e = n := by rw [← he]; unfold nextAt; rw [if_neg hc]
    subst he2
    have hcd : decide (a + 3 < e) = false := decide_eq_false hc
    rw [hcd]
    by_cases hc2 : a + 3 = e
    · have he3 : (a : Int) + 3 = (e : Int) := by omega
      clear hn hsv hs1 hb1 he ha hl hc hc2
      go_wp2_with fail
      refine wp_drew_tail 14 (by kernel_rfl) (by kernel_rfl) ?_
      simp only [List.take_succ_cons, List.take_zero, List.drop_succ_cons, List.drop_zero]
      repeat (go_big_quiet_step (fail))
      refine wpQuiet_nil ?_
      rintro w3 ⟨dq, rfl⟩
      go_wp2
      go_ret
      refine ⟨by first | rfl | (rw [hcd]; rfl), ⟨?_, ?_⟩, ?_⟩
      · have := ((hK.out dq).ptr.set_ 1 (.int .i64 (e : Int))).to (cs' := #[v, .int .i64 (e : Int)]) (by simp)
        exact this
      · exact (hK.out dq).own.set_ (by simp) _
      · exact hG.out dq _
    · have hci : (e : Int) < (a : Int) + 3 := by omega
      clear hn hsv hs1 hb1 he ha hl hc hc2
      go_wp2_with fail
      refine wp_drew_tail 14 (by kernel_rfl) (by kernel_rfl) ?_
      simp only [List.take_succ_cons, List.take_zero, List.drop_succ_cons, List.drop_zero]
      repeat (go_big_quiet_step (fail))
      refine wpQuiet_nil ?_
      rintro w3 ⟨dq, rfl⟩
      go_wp2
      go_ret
      refine ⟨by first | rfl | (rw [hcd]; rfl), ⟨?_, ?_⟩, ?_⟩
      · have := ((hK.out dq).ptr.set_ 1 (.int .i64 (e : Int))).to (cs' := #[v, .int .i64 (e : Int)]) (by simp)
        exact this
      · exact (hK.out dq).own.set_ (by simp) _
      · exact hG.out dq _

end Go.Proofs.Ytfpjkeddcagfcaa

/-
  Layer 14: an exchange as a value, and in memory; what a call that turns two blocks leaves as it was.
-/
namespace Go.Proofs.Ytfpjkeddcagfcaa
open Go.RowKit Go.Sort

/-- a piece -/
structure DdV where
  i : Bool
  m : Bool
  s : Bool
  q : Int
  hs : List Hd
/-- an exchange -/
structure ExM where
  a : Int
  b : Int
  n : Int
  ag : Bool
  ld : Bool
  dn : Bool
  l1 : Bool
  l2 : Bool
  l3 : Bool
  l4 : Int
  said : DdV
  H : List Hd
  k : Nat
def exNext (n : Int) : Int := (n + 1) % 4294967296
def sayM (x : ExM) : ExM := { x with said := ⟨false, decide (x.k + 3 < x.H.length), x.ld, x.n, pieceAt x.H x.k⟩ }
def beginM (x : ExM) (d : DdV) (S : List Hd) : Option ExM :=
  if d.i = true ∧ d.m = true ∧ d.s = true ∧ d.hs.length = 0 ∧ x.a < x.b then some (sayM { x with n := d.q, ag := true, H := S, k := 0 })
  else if d.i = false ∧ d.s = false ∧ d.q = x.n ∧ x.b < x.a then some (sayM { x with n := exNext x.n, ld := true, ag := true, H := S, k := 0 })
  else none
def wantM (x : ExM) : Int := if x.ld then x.n else exNext x.n
def fitsM (x : ExM) (d : DdV) : Bool := !x.dn && (!d.i && ((d.s != x.ld) && decide (d.q = wantM x)))
def stepM (x : ExM) : ExM := { x with k := nextAt x.k x.H.length }
def takeM (x : ExM) (d : DdV) : ExM :=
  if x.ld then
    if !d.m && !x.said.m then { x with n := exNext d.q, dn := true } else sayM (stepM { x with n := exNext d.q, dn := false })
  else
    let y := sayM (stepM { x with n := d.q })
    { y with dn := !d.m && !y.said.m }
def markM (x : ExM) (d : DdV) : ExM := { x with l1 := d.i, l2 := d.m, l3 := d.s, l4 := d.q }
def sameM (x : ExM) (d : DdV) : Bool := decide (d.i = x.l1 ∧ d.m = x.l2 ∧ d.s = x.l3 ∧ d.q = x.l4)
/-- what comes of a piece -/
def hearM (x : ExM) (d : DdV) (S : List Hd) : ExM × Int :=
  if d.q < 0 ∨ 4294967295 < d.q then (x, 0)
  else if x.ag = false then
    match beginM x d S with
    | none => (x, 0)
    | some y => (markM y d, 2)
  else if sameM x d then (x, if x.ld then 0 else 1)
  else if fitsM x d then (markM (takeM x d) d, 2)
  else (x, 3)

def ExM.ar (x : ExM) (hv pv : Value) : Array Value := exA x.a x.b x.n x.ag x.ld x.dn x.l1 x.l2 x.l3 x.l4 x.said.i x.said.m x.said.s x.said.q hv pv
/-- an exchange in memory: its own block, that of its summary, the heads it said -/
structure ExAt (w : World) (p s : Nat) (x : ExM) : Prop where
  ptr : ∃ hv, Blk w p 65 (x.ar hv (if x.ag then .pointer (some ⟨s, 0, none⟩) else .pointer none)) ∧ OwnR 56 7 Hd.cells w 0 hv x.said.hs
  sum : x.ag = true → ∃ v, SmAt w s v x.k x.H
  le : x.ag = true → x.k ≤ x.H.length ∧ x.H.length ≤ 60
  rng : 0 ≤ x.n ∧ x.n ≤ 4294967295
theorem own_ne14 {α : Type} {e t : TypeId} {C g B : Nat} {cells : α → List Value} {w : World} {v : Value} {L : List α} {cs : Array Value} (ho : OwnR e C cells w B v L) (hb : Blk w g t cs) (hne : e ≠ t) : v.ownBlock ≠ some g := by
  intro e'
  rcases ho.2 with ⟨g', -⟩ | ⟨g', cap, cur, h1, h2, h3, h4⟩
  · rw [g'] at e'; cases e'
  · rw [h1] at e'
    have e2 : g' = g := by injection e'
    rw [e2] at h3
    have h6 : w.heap[g]? = some (.cells cs t (0, 0)) := hb
    rw [h6] at h3
    injection h3 with h3
    injection h3 with _ h3
    exact hne h3.symm
/-- blocks of a kind, and new ones, may have changed -/
inductive Mvs (P : Nat → Prop) : World → World → Prop
  | refl (w : World) : Mvs P w w
  | step {w w1 w2 : World} {g : Nat} : Mvs P w w1 → w1.grownBy w2 (some g) → P g → Mvs P w w2
section
variable {P Q : Nat → Prop} {w w1 w' : World} {g s p : Nat}
theorem Mvs.one (h : w.grownBy w' (some g)) (hg : P g) : Mvs P w w' := .step (.refl _) h hg
theorem Mvs.trans (h : Mvs P w w1) (k : Mvs P w1 w') : Mvs P w w' := by
  induction k with
  | refl => exact h
  | step _ hg hp ih => exact .step ih hg hp
theorem Mvs.imp (h : Mvs P w w') (hi : ∀ g, P g → Q g) : Mvs Q w w' := by
  induction h with
  | refl => exact .refl _
  | step _ hg hp ih => exact .step ih hg (hi _ hp)
theorem Mvs.size (h : Mvs P w w') : w.heap.size ≤ w'.heap.size := by
  induction h with
  | refl => exact Nat.le_refl _
  | step _ hg _ ih => exact Nat.le_trans ih hg.size
theorem Mvs.blk {t : TypeId} {cs : Array Value} (h : Mvs P w w') (hb : Blk w g t cs) (hg : ¬ P g) : Blk w' g t cs := by
  induction h with
  | refl => exact hb
  | step _ hr hp ih => exact ih.grown hr (fun e => by injection e with e; rw [e] at hg; exact hg hp)
theorem Mvs.own {α : Type} {e : TypeId} {C B : Nat} {cells : α → List Value} {v : Value} {L : List α} (h : Mvs P w w') (ho : OwnR e C cells w B v L) (hv : ∀ g, v.ownBlock = some g → ¬ P g) : OwnR e C cells w' B v L := by
  induction h with
  | refl => exact ho
  | step _ hr hp ih => exact ih.kept hr (.inr fun e => hv _ e hp)
theorem Mvs.bel {B : Nat} {w0 : World} (h : Mvs P w w') (hb : Below B w0 w) (hB : B ≤ w.heap.size) (hP : ∀ g, P g → B ≤ g) : Below B w0 w' := by
  induction h with
  | refl => exact hb
  | step hm hr hp ih => exact ih.grown hr (Nat.le_trans hB hm.size) (fun m e => by injection e with e; rw [← e]; exact hP _ hp)
theorem blk_type {t t' : TypeId} {cs cs' : Array Value} (h : Blk w g t cs) (h' : Blk w g t' cs') : t = t' := by
  have h1 : w.heap[g]? = some (.cells cs t (0, 0)) := h
  have h2 : w.heap[g]? = some (.cells cs' t' (0, 0)) := h'
  rw [h1] at h2
  injection h2 with h2
  injection h2
theorem ExAt.below {x : ExM} (h : ExAt w p s x) (hb : Below w.heap.size w w') : ExAt w' p s x := by
  obtain ⟨hv, h1, h2⟩ := h.ptr
  exact ⟨⟨hv, h1.below hb h1.lt, h2.below hb⟩, fun e => by obtain ⟨v, h3⟩ := h.sum e; exact ⟨v, h3.keep hb⟩, h.le, h.rng⟩
/-- one exchange moves, another one stays -/
theorem ExAt.moved {x : ExM} (h : ExAt w p s x) (hm : Mvs P w w') (hp : ¬ P p) (hs : x.ag = true → ¬ P s) (hP : ∀ g, P g → ∃ t cs, Blk w g t cs ∧ 56 ≠ t) : ExAt w' p s x := by
  obtain ⟨hv, h1, h2⟩ := h.ptr
  have far : ∀ {B : Nat} {v : Value} {L : List Hd}, OwnR 56 7 Hd.cells w B v L → ∀ g, v.ownBlock = some g → ¬ P g := fun ho g e hg => by
    obtain ⟨t, cs, hb, hne⟩ := hP g hg
    exact own_ne14 ho hb hne e
  exact ⟨⟨hv, hm.blk h1 hp, hm.own h2 (far h2)⟩, fun e => by obtain ⟨v, h3⟩ := h.sum e; exact ⟨v, ⟨hm.blk h3.ptr (hs e), hm.own h3.own (far h3.own)⟩⟩, h.le, h.rng⟩
end

end Go.Proofs.Ytfpjkeddcagfcaa

/-
  Layer 14: two sides of an exchange on their way, in plain words: whichever hears the other one, nothing is bad; both are done behind enough of it.
-/
namespace Go.Proofs.Ytfpjkeddcagfcaa
open Go.RowKit Go.Sort

/-- the numbers of the pieces -/
def numX (s : Int) (j : Nat) : Int := (s + j) % 4294967296
theorem numX_zero {s : Int} (h : 0 ≤ s ∧ s ≤ 4294967295) : numX s 0 = s := by unfold numX; omega
theorem numX_next (s : Int) (j : Nat) : exNext (numX s j) = numX s (j + 1) := by unfold numX exNext; omega
theorem numX_ne (s : Int) (j : Nat) : ¬ numX s (j + 1) = numX s j := by unfold numX; omega
theorem numX_rng (s : Int) (j : Nat) : ¬ (numX s j < 0 ∨ 4294967295 < numX s j) := by unfold numX; omega
/-- the place of a piece -/
def kOf (n j : Nat) : Nat := if 3 * j < n then 3 * j else n
theorem kOf_zero (n : Nat) : kOf n 0 = 0 := by unfold kOf; split <;> omega
theorem kOf_next (n j : Nat) : nextAt (kOf n j) n = kOf n (j + 1) := by unfold nextAt kOf; split <;> split <;> split <;> omega
def moreP (S : List Hd) (j : Nat) : Bool := decide (3 * (j + 1) < S.length)
theorem kOf_more (S : List Hd) (j : Nat) : decide (kOf S.length j + 3 < S.length) = moreP S j := by
  unfold moreP kOf
  rw [Bool.eq_iff_iff, decide_eq_true_eq, decide_eq_true_eq]
  split <;> omega
def pcP (S : List Hd) (j : Nat) : List Hd := pieceAt S (kOf S.length j)
theorem take_pc (S : List Hd) (j : Nat) : S.take (3 * j) ++ pcP S j = S.take (3 * (j + 1)) := by
  unfold pcP pieceAt kOf
  split
  · rw [show 3 * (j + 1) = 3 * j + 3 by omega, List.take_add]
  · rw [List.drop_eq_nil_of_le (Nat.le_refl _), List.take_nil, List.append_nil, List.take_of_length_le (by omega), List.take_of_length_le (by omega)]
theorem take_all {S : List Hd} {j : Nat} (h : moreP S j = false) : S.take (3 * (j + 1)) = S := by
  unfold moreP at h
  rw [decide_eq_false_iff_not] at h
  exact List.take_of_length_le (by omega)
/-- an exchange that nobody told anything -/
def freshX (a b n : Int) : ExM := ⟨a, b, n, false, false, false, false, false, false, 0, ⟨true, true, true, n, []⟩, [], 0⟩
/-- the one that follows, at its piece j -/
def folX (a b s : Int) (S : List Hd) (j : Nat) (dn m1 m2 m3 : Bool) (m4 : Int) : ExM := ⟨a, b, numX s j, true, false, dn, m1, m2, m3, m4, ⟨false, moreP S j, false, numX s j, pcP S j⟩, S, kOf S.length j⟩
/-- the one that leads, at its piece j -/
def leadX (a b s : Int) (S : List Hd) (j : Nat) (m2 : Bool) : ExM := ⟨b, a, numX s (j + 1), true, true, false, false, m2, false, numX s j, ⟨false, moreP S j, true, numX s (j + 1), pcP S j⟩, S, kOf S.length j⟩
/-- the one that leads, done -/
def endX (a b s : Int) (S : List Hd) (j : Nat) : ExM := ⟨b, a, numX s (j + 2), true, true, true, false, false, false, numX s (j + 1), ⟨false, false, true, numX s (j + 1), pcP S j⟩, S, kOf S.length j⟩
section
variable {a b s t : Int} {SF SL : List Hd} {j : Nat}
theorem folX_hears (hab : a < b) (hs : 0 ≤ s ∧ s ≤ 4294967295) : hearM (freshX a b t) ⟨true, true, true, s, []⟩ SF = (folX a b s SF 0 false true true true s, 2) := by
  have h1 : ¬ (s < 0 ∨ 4294967295 < s) := by omega
  have h2 := kOf_more SF 0
  rw [kOf_zero] at h2
  simp [hearM, freshX, h1, beginM, hab, folX, sayM, markM, numX_zero hs, kOf_zero, pcP, h2]
theorem folX_again (n : Int) (dn : Bool) (hs' : List Hd) : hearM (folX a b s SF j dn true true true n) ⟨true, true, true, n, hs'⟩ SF = (folX a b s SF j dn true true true n, if n < 0 ∨ 4294967295 < n then 0 else 1) := by
  by_cases h1 : n < 0 ∨ 4294967295 < n <;> simp [hearM, folX, h1, sameM]
theorem freshL_init (hab : a < b) (n : Int) (hs' : List Hd) : hearM (freshX b a s) ⟨true, true, true, n, hs'⟩ SL = (freshX b a s, 0) := by
  have h2 : ¬ b < a := by omega
  by_cases h1 : n < 0 ∨ 4294967295 < n <;> simp [hearM, freshX, h1, beginM, h2]
theorem leadX_begins (hab : a < b) (hs : 0 ≤ s ∧ s ≤ 4294967295) (m : Bool) (hs' : List Hd) : hearM (freshX b a s) ⟨false, m, false, numX s 0, hs'⟩ SL = (leadX a b s SL 0 m, 2) := by
  have h1 : ¬ (s < 0 ∨ 4294967295 < s) := by omega
  have h3 := numX_next s 0
  rw [numX_zero hs] at h3
  have h2 := kOf_more SL 0
  rw [kOf_zero] at h2
  simp [hearM, freshX, h1, beginM, hab, leadX, sayM, markM, numX_zero hs, kOf_zero, pcP, h2, h3]
/-- it hears the same again -/
theorem again_any (x : ExM) (d : DdV) (S : List Hd) (h : x.ag = true) (hm : sameM x d = true) (hq : ¬ (d.q < 0 ∨ 4294967295 < d.q)) : hearM x d S = (x, if x.ld then 0 else 1) := by
  unfold hearM
  rw [if_neg hq, if_neg (by rw [h]; simp), if_pos hm]
theorem folX_takes (m1 m2 m3 m : Bool) (m4 : Int) (hs' : List Hd) (hne : sameM (folX a b s SF j false m1 m2 m3 m4) ⟨false, m, true, numX s (j + 1), hs'⟩ = false) : hearM (folX a b s SF j false m1 m2 m3 m4) ⟨false, m, true, numX s (j + 1), hs'⟩ SF = (folX a b s SF (j + 1) (!m && !moreP SF (j + 1)) false m true (numX s (j + 1)), 2) := by
  have hf : fitsM (folX a b s SF j false m1 m2 m3 m4) ⟨false, m, true, numX s (j + 1), hs'⟩ = true := by
    simp [fitsM, folX, wantM, numX_next]
  unfold hearM
  rw [if_neg (numX_rng _ _), if_neg (by simp [folX]), if_neg (by rw [hne]; simp), if_pos hf]
  simp [takeM, folX, stepM, sayM, markM, kOf_next, kOf_more, pcP]
theorem leadX_takes (m2 m : Bool) (hs' : List Hd) : hearM (leadX a b s SL j m2) ⟨false, m, false, numX s (j + 1), hs'⟩ SL = (if m = false ∧ moreP SL j = false then endX a b s SL j else leadX a b s SL (j + 1) m, 2) := by
  have hne : sameM (leadX a b s SL j m2) ⟨false, m, false, numX s (j + 1), hs'⟩ = false := by
    simp [sameM, leadX, numX_ne]
  have hf : fitsM (leadX a b s SL j m2) ⟨false, m, false, numX s (j + 1), hs'⟩ = true := by
    simp [fitsM, leadX, wantM]
  have h3 := numX_next s (j + 1)
  unfold hearM
  rw [if_neg (numX_rng _ _), if_neg (by simp [leadX]), if_neg (by rw [hne]; simp), if_pos hf]
  cases hm : moreP SL j <;> cases m <;> simp [takeM, leadX, endX, stepM, sayM, markM, kOf_next, kOf_more, pcP, hm, h3]
end
/-- two sides on their way: how far they are, the one that follows, the one that leads, what each took -/
inductive Way (a b s t : Int) (SF SL : List Hd) : Nat → ExM → ExM → List Hd → List Hd → Prop
  | none : Way a b s t SF SL 0 (freshX a b t) (freshX b a s) [] []
  | one : Way a b s t SF SL 1 (folX a b s SF 0 false true true true s) (freshX b a s) [] []
  | two (j : Nat) (m1 m2 m3 : Bool) (m4 : Int) (h : j = 0 ∨ moreP SL (j - 1) = true ∨ moreP SF j = true) (hm : m1 = false → m4 = numX s j) (hj : m1 = true → j = 0) : Way a b s t SF SL (2 + 2 * j) (folX a b s SF j false m1 m2 m3 m4) (leadX a b s SL j (moreP SF j)) (SL.take (3 * j)) (SF.take (3 * (j + 1)))
  | three (j : Nat) (h : j = 0 ∨ moreP SL (j - 1) = true ∨ moreP SF j = true) : Way a b s t SF SL (3 + 2 * j) (folX a b s SF (j + 1) (!moreP SL j && !moreP SF (j + 1)) false (moreP SL j) true (numX s (j + 1))) (leadX a b s SL j (moreP SF j)) (SL.take (3 * (j + 1))) (SF.take (3 * (j + 1)))
  | done (j : Nat) (hl : moreP SL j = false) (hf : moreP SF (j + 1) = false) : Way a b s t SF SL 100 (folX a b s SF (j + 1) true false false true (numX s (j + 1))) (endX a b s SL j) SL SF
/-- what was taken -/
def tookX (T : List Hd) (r : Int) (hs : List Hd) : List Hd := if r = 2 then T ++ hs else T
section
variable {a b s t : Int} {SF SL : List Hd} {ρ : Nat} {F L : ExM} {TF TL : List Hd}
/-- the rank behind the move of the one whose turn it is -/
def upR (ρ ρ' : Nat) : Prop := ρ' = ρ + 1 ∨ ρ' = 100
theorem few_j {j : Nat} (hF : SF.length ≤ 60) (hL : SL.length ≤ 60) (h : j = 0 ∨ moreP SL (j - 1) = true ∨ moreP SF j = true) : j ≤ 19 := by
  unfold moreP at h; simp only [decide_eq_true_eq] at h; omega
/-- few ranks -/
theorem Way.few (hF : SF.length ≤ 60) (hL : SL.length ≤ 60) (h : Way a b s t SF SL ρ F L TF TL) : ρ ≤ 41 ∨ ρ = 100 := by
  cases h with
  | none => omega
  | one => omega
  | two j _ _ _ _ h _ _ => unfold moreP at h; simp only [decide_eq_true_eq] at h; omega
  | three j h => unfold moreP at h; simp only [decide_eq_true_eq] at h; omega
  | done => omega
theorem Way.fol (hF : SF.length ≤ 60) (hL : SL.length ≤ 60) (hab : a < b) (hs : 0 ≤ s ∧ s ≤ 4294967295) (h : Way a b s t SF SL ρ F L TF TL) : (hearM F L.said SF).2 ≠ 3 ∧ ∃ ρ', Way a b s t SF SL ρ' (hearM F L.said SF).1 L (tookX TF (hearM F L.said SF).2 L.said.hs) TL ∧ (if ρ = 100 then ρ' = 100 else if ρ % 2 = 0 then upR ρ ρ' else ρ' = ρ) := by
  cases h with
  | none =>
    have h1 := folX_hears (t := t) (SF := SF) hab hs
    rw [show (freshX b a s).said = ⟨true, true, true, s, []⟩ from rfl, h1]
    exact ⟨by simp, 1, by simpa [tookX] using Way.one, by simp [upR]⟩
  | one =>
    have h1 := folX_again (a := a) (b := b) (s := s) (SF := SF) (j := 0) s false []
    rw [show (freshX b a s).said = ⟨true, true, true, s, []⟩ from rfl, h1, if_neg (by omega)]
    exact ⟨by simp, 1, by simpa [tookX] using Way.one, by simp⟩
  | two j m1 m2 m3 m4 h hm hj =>
    have hne : sameM (folX a b s SF j false m1 m2 m3 m4) ⟨false, moreP SL j, true, numX s (j + 1), pcP SL j⟩ = false := by
      cases m1
      · simp [sameM, folX, hm rfl, numX_ne]
      · simp [sameM, folX]
    have h1 := folX_takes (a := a) (b := b) (s := s) (SF := SF) (j := j) m1 m2 m3 (moreP SL j) m4 (pcP SL j) hne
    rw [show (leadX a b s SL j (moreP SF j)).said = ⟨false, moreP SL j, true, numX s (j + 1), pcP SL j⟩ from rfl, h1]
    refine ⟨by simp, 3 + 2 * j, ?_, ?_⟩
    · have := Way.three (a := a) (b := b) (s := s) (t := t) (SF := SF) (SL := SL) j h
      simp only [tookX, if_true, take_pc]
      exact this
    · have := few_j hF hL h
      unfold upR; split
      · omega
      · split <;> omega
  | three j h =>
    have h1 := again_any (folX a b s SF (j + 1) (!moreP SL j && !moreP SF (j + 1)) false (moreP SL j) true (numX s (j + 1))) ⟨false, moreP SL j, true, numX s (j + 1), pcP SL j⟩ SF rfl (by simp [sameM, folX]) (numX_rng _ _)
    rw [show (leadX a b s SL j (moreP SF j)).said = ⟨false, moreP SL j, true, numX s (j + 1), pcP SL j⟩ from rfl, h1]
    refine ⟨by simp [folX], 3 + 2 * j, ?_, ?_⟩
    · have := Way.three (a := a) (b := b) (s := s) (t := t) (SF := SF) (SL := SL) j h
      simpa [tookX, folX] using this
    · split
      · omega
      · split <;> omega
  | done j hl hf =>
    have h1 := again_any (folX a b s SF (j + 1) true false false true (numX s (j + 1))) ⟨false, false, true, numX s (j + 1), pcP SL j⟩ SF rfl (by simp [sameM, folX]) (numX_rng _ _)
    rw [show (endX a b s SL j).said = ⟨false, false, true, numX s (j + 1), pcP SL j⟩ from rfl, h1]
    refine ⟨by simp [folX], 100, ?_, by simp⟩
    have := Way.done (a := a) (b := b) (s := s) (t := t) (SF := SF) (SL := SL) j hl hf
    simpa [tookX, folX] using this
theorem Way.lead (hab : a < b) (hs : 0 ≤ s ∧ s ≤ 4294967295) (h : Way a b s t SF SL ρ F L TF TL) : (hearM L F.said SL).2 ≠ 3 ∧ ∃ ρ', Way a b s t SF SL ρ' F (hearM L F.said SL).1 TF (tookX TL (hearM L F.said SL).2 F.said.hs) ∧ (if ρ = 100 then ρ' = 100 else if ρ % 2 = 1 then upR ρ ρ' else ρ' = ρ) := by
  cases h with
  | none =>
    have h1 := freshL_init (s := s) (SL := SL) hab t []
    rw [show (freshX a b t).said = ⟨true, true, true, t, []⟩ from rfl, h1]
    exact ⟨by simp, 0, by simpa [tookX] using Way.none, by simp⟩
  | one =>
    have h1 := leadX_begins (SL := SL) hab hs (moreP SF 0) (pcP SF 0)
    rw [show (folX a b s SF 0 false true true true s).said = ⟨false, moreP SF 0, false, numX s 0, pcP SF 0⟩ from rfl, h1]
    refine ⟨by simp, 2, ?_, by simp [upR]⟩
    have := Way.two (a := a) (b := b) (s := s) (t := t) (SF := SF) (SL := SL) 0 true true true s (.inl rfl) (by simp) (by simp)
    have h2 := take_pc SF 0
    simp only [Nat.mul_zero, List.take_zero, List.nil_append] at h2 this
    simp only [tookX, if_true, List.nil_append, h2]
    exact this
  | two j m1 m2 m3 m4 h hm hj =>
    have h1 := again_any (leadX a b s SL j (moreP SF j)) ⟨false, moreP SF j, false, numX s j, pcP SF j⟩ SL rfl (by simp [sameM, leadX]) (numX_rng _ _)
    rw [show (folX a b s SF j false m1 m2 m3 m4).said = ⟨false, moreP SF j, false, numX s j, pcP SF j⟩ from rfl, h1]
    refine ⟨by simp [leadX], 2 + 2 * j, ?_, ?_⟩
    · have := Way.two (a := a) (b := b) (s := s) (t := t) (SF := SF) (SL := SL) j m1 m2 m3 m4 h hm hj
      simpa [tookX, leadX] using this
    · split
      · omega
      · split <;> omega
  | three j h =>
    have h1 := leadX_takes (a := a) (b := b) (s := s) (SL := SL) (j := j) (moreP SF j) (moreP SF (j + 1)) (pcP SF (j + 1))
    rw [show (folX a b s SF (j + 1) (!moreP SL j && !moreP SF (j + 1)) false (moreP SL j) true (numX s (j + 1))).said = ⟨false, moreP SF (j + 1), false, numX s (j + 1), pcP SF (j + 1)⟩ from rfl, h1]
    by_cases hd : moreP SF (j + 1) = false ∧ moreP SL j = false
    · rw [if_pos hd]
      refine ⟨by simp, 100, ?_, ?_⟩
      · have := Way.done (a := a) (b := b) (s := s) (t := t) (SF := SF) (SL := SL) j hd.2 hd.1
        have hF := take_pc SF (j + 1)
        rw [take_all hd.1] at hF
        simp only [tookX, if_true, hF, take_all hd.2]
        rw [hd.1, hd.2]
        exact this
      · unfold upR; split
        · rfl
        · split <;> omega
    · rw [if_neg hd]
      refine ⟨by simp, 2 + 2 * (j + 1), ?_, ?_⟩
      · have hd2 : (!moreP SL j && !moreP SF (j + 1)) = false := by
          cases h4 : moreP SL j <;> cases h5 : moreP SF (j + 1) <;> simp_all
        have := Way.two (a := a) (b := b) (s := s) (t := t) (SF := SF) (SL := SL) (j + 1) false (moreP SL j) true (numX s (j + 1)) (by
          cases h4 : moreP SL j <;> cases h5 : moreP SF (j + 1) <;> simp_all) (by simp) (by simp)
        simp only [tookX, if_true, take_pc, hd2]
        exact this
      · unfold upR; split
        · omega
        · split <;> omega
  | done j hl hf =>
    have h1 := again_any (endX a b s SL j) ⟨false, false, false, numX s (j + 1), pcP SF (j + 1)⟩ SL rfl (by simp [sameM, endX]) (numX_rng _ _)
    rw [show (folX a b s SF (j + 1) true false false true (numX s (j + 1))).said = ⟨false, moreP SF (j + 1), false, numX s (j + 1), pcP SF (j + 1)⟩ from rfl, hf, h1]
    refine ⟨by simp [endX], 100, ?_, by simp⟩
    have := Way.done (a := a) (b := b) (s := s) (t := t) (SF := SF) (SL := SL) j hl hf
    simpa [tookX, endX] using this
/-- what was taken is a beginning -/
theorem Way.begins (h : Way a b s t SF SL ρ F L TF TL) : TF = SL.take TF.length ∧ TF.length ≤ SL.length ∧ TL = SF.take TL.length ∧ TL.length ≤ SF.length ∧ (F.dn = true → TF = SL) ∧ (L.dn = true → TL = SF) := by
  have ht : ∀ (S : List Hd) (n : Nat), S.take n = S.take (S.take n).length ∧ (S.take n).length ≤ S.length := fun S n => by
    rw [List.length_take]
    exact ⟨by rw [← List.take_take]; simp, Nat.min_le_right _ _⟩
  cases h with
  | none => simp [freshX]
  | one => simp [folX, freshX]
  | two j => exact ⟨(ht _ _).1, (ht _ _).2, (ht _ _).1, (ht _ _).2, by simp [folX], by simp [leadX]⟩
  | three j => 
    refine ⟨(ht _ _).1, (ht _ _).2, (ht _ _).1, (ht _ _).2, fun hd => ?_, by simp [leadX]⟩
    simp only [folX, Bool.and_eq_true, Bool.not_eq_true'] at hd
    exact take_all hd.1
  | done j => simp
theorem Way.ends (hF : SF.length ≤ 60) (hL : SL.length ≤ 60) (h : Way a b s t SF SL 100 F L TF TL) : ∃ j, moreP SL j = false ∧ moreP SF (j + 1) = false ∧ F = folX a b s SF (j + 1) true false false true (numX s (j + 1)) ∧ L = endX a b s SL j ∧ TF = SL ∧ TL = SF := by
  generalize hr : (100 : Nat) = r at h
  cases h with
  | none => omega
  | one => omega
  | two j _ _ _ _ h _ _ => have := few_j hF hL h; omega
  | three j => omega
  | done j hl hf => exact ⟨j, hl, hf, rfl, rfl, rfl, rfl⟩
end
/-- two sides, whichever of them leads -/
def WayW (n0 n1 s0 s1 : Int) (H0 H1 : List Hd) (ρ : Nat) (x y : ExM) (tx ty : List Hd) : Prop :=
  (n0 < n1 ∧ Way n0 n1 s1 s0 H0 H1 ρ x y tx ty) ∨ (n1 < n0 ∧ Way n1 n0 s0 s1 H1 H0 ρ y x ty tx)
/-- the one who moves -/
def movX (n0 n1 : Int) (ρ : Nat) : Bool := decide (ρ % 2 = 0) == decide (n0 < n1)
def stepR (n0 n1 : Int) (turn : Bool) (ρ ρ' : Nat) : Prop := if ρ = 100 then ρ' = 100 else if movX n0 n1 ρ = turn then upR ρ ρ' else ρ' = ρ
/-- behind m turns by turns -/
def NearX (n0 n1 : Int) (m : Nat) (turn : Bool) (ρ : Nat) : Prop := ρ = 100 ∨ m ≤ ρ ∨ (m ≤ ρ + 1 ∧ turn = movX n0 n1 ρ)
section
variable {n0 n1 s0 s1 : Int} {H0 H1 : List Hd} {ρ : Nat} {x y : ExM} {tx ty : List Hd}
theorem WayW.start (hne : n0 ≠ n1) : WayW n0 n1 s0 s1 H0 H1 0 (freshX n0 n1 s0) (freshX n1 n0 s1) [] [] := by
  rcases Int.lt_or_gt_of_ne hne with h | h
  · exact .inl ⟨h, .none⟩
  · exact .inr ⟨h, .none⟩
theorem WayW.left (hF : H0.length ≤ 60) (hL : H1.length ≤ 60) (h0 : 0 ≤ s0 ∧ s0 ≤ 4294967295) (h1 : 0 ≤ s1 ∧ s1 ≤ 4294967295) (h : WayW n0 n1 s0 s1 H0 H1 ρ x y tx ty) : (hearM x y.said H0).2 ≠ 3 ∧ ∃ ρ', WayW n0 n1 s0 s1 H0 H1 ρ' (hearM x y.said H0).1 y (tookX tx (hearM x y.said H0).2 y.said.hs) ty ∧ stepR n0 n1 true ρ ρ' := by
  rcases h with ⟨hab, h⟩ | ⟨hab, h⟩
  · obtain ⟨h3, ρ', h4, h5⟩ := h.fol hF hL hab h1
    refine ⟨h3, ρ', .inl ⟨hab, h4⟩, ?_⟩
    unfold stepR movX
    simpa [hab] using h5
  · obtain ⟨h3, ρ', h4, h5⟩ := h.lead hab h0
    refine ⟨h3, ρ', .inr ⟨hab, h4⟩, ?_⟩
    have hab2 : ¬ n0 < n1 := by omega
    unfold stepR movX
    rcases Nat.mod_two_eq_zero_or_one ρ with e | e <;> simpa [hab2, e] using h5
theorem WayW.right (hF : H0.length ≤ 60) (hL : H1.length ≤ 60) (h0 : 0 ≤ s0 ∧ s0 ≤ 4294967295) (h1 : 0 ≤ s1 ∧ s1 ≤ 4294967295) (h : WayW n0 n1 s0 s1 H0 H1 ρ x y tx ty) : (hearM y x.said H1).2 ≠ 3 ∧ ∃ ρ', WayW n0 n1 s0 s1 H0 H1 ρ' x (hearM y x.said H1).1 tx (tookX ty (hearM y x.said H1).2 x.said.hs) ∧ stepR n0 n1 false ρ ρ' := by
  rcases h with ⟨hab, h⟩ | ⟨hab, h⟩
  · obtain ⟨h3, ρ', h4, h5⟩ := h.lead hab h1
    refine ⟨h3, ρ', .inl ⟨hab, h4⟩, ?_⟩
    unfold stepR movX
    rcases Nat.mod_two_eq_zero_or_one ρ with e | e <;> simpa [hab, e] using h5
  · obtain ⟨h3, ρ', h4, h5⟩ := h.fol hL hF hab h0
    refine ⟨h3, ρ', .inr ⟨hab, h4⟩, ?_⟩
    have hab2 : ¬ n0 < n1 := by omega
    unfold stepR movX
    simpa [hab2] using h5
theorem WayW.few (hF : H0.length ≤ 60) (hL : H1.length ≤ 60) (h : WayW n0 n1 s0 s1 H0 H1 ρ x y tx ty) : ρ ≤ 41 ∨ ρ = 100 := by
  rcases h with ⟨-, h⟩ | ⟨-, h⟩
  · exact h.few hF hL
  · exact h.few hL hF
theorem WayW.begins (h : WayW n0 n1 s0 s1 H0 H1 ρ x y tx ty) : tx = H1.take tx.length ∧ tx.length ≤ H1.length ∧ ty = H0.take ty.length ∧ ty.length ≤ H0.length ∧ (x.dn = true → tx = H1) ∧ (y.dn = true → ty = H0) := by
  rcases h with ⟨-, h⟩ | ⟨-, h⟩
  · exact h.begins
  · obtain ⟨a, b, c, d, e, f⟩ := h.begins
    exact ⟨c, d, a, b, f, e⟩
theorem near_start (turn : Bool) : NearX n0 n1 0 turn ρ := .inr (.inl (Nat.zero_le _))
theorem near_step {m ρ' : Nat} {turn : Bool} (h : NearX n0 n1 m turn ρ) (hs : stepR n0 n1 turn ρ ρ') : NearX n0 n1 (m + 1) (!turn) ρ' := by
  unfold stepR at hs
  unfold NearX at h ⊢
  by_cases h100 : ρ = 100
  · rw [if_pos h100] at hs; exact .inl hs
  rw [if_neg h100] at hs
  by_cases hm : movX n0 n1 ρ = turn
  · rw [if_pos hm] at hs
    rcases hs with hs | hs
    · subst hs
      rcases h with h | h | ⟨h, h2⟩
      · exact absurd h h100
      · exact .inr (.inl (by omega))
      · refine .inr (.inr ⟨by omega, ?_⟩)
        rw [← hm]
        unfold movX
        rcases Nat.mod_two_eq_zero_or_one ρ with e | e
        · have e2 : (ρ + 1) % 2 = 1 := by omega
          rw [e, e2]; cases decide (n0 < n1) <;> rfl
        · have e2 : (ρ + 1) % 2 = 0 := by omega
          rw [e, e2]; cases decide (n0 < n1) <;> rfl
    · exact .inl hs
  · rw [if_neg hm] at hs
    subst hs
    rcases h with h | h | ⟨h, h2⟩
    · exact absurd h h100
    · refine .inr (.inr ⟨by omega, ?_⟩)
      cases turn <;> cases hv : movX n0 n1 ρ' <;> simp_all
    · exact absurd h2.symm hm
theorem WayW.near {m : Nat} {turn : Bool} (hF : H0.length ≤ 60) (hL : H1.length ≤ 60) (h : WayW n0 n1 s0 s1 H0 H1 ρ x y tx ty) (hn : NearX n0 n1 m turn ρ) (hm : 50 ≤ m) : ρ = 100 := by
  have := h.few hF hL
  unfold NearX at hn
  omega
/-- behind enough of it -/
theorem WayW.ends (hF : H0.length ≤ 60) (hL : H1.length ≤ 60) (h : WayW n0 n1 s0 s1 H0 H1 100 x y tx ty) : x.dn = true ∧ y.dn = true ∧ x.ld = decide (n1 < n0) ∧ y.ld = !x.ld ∧ x.ag = true ∧ y.ag = true ∧ tx = H1 ∧ ty = H0 ∧ (x.l1 = y.said.i ∧ x.l2 = y.said.m ∧ x.l3 = y.said.s ∧ x.l4 = y.said.q) := by
  rcases h with ⟨hab, h⟩ | ⟨hab, h⟩
  · obtain ⟨j, hl, hf, rfl, rfl, rfl, rfl⟩ := h.ends hF hL
    have hab2 : ¬ n1 < n0 := by omega
    simp [folX, endX, hab2]
  · obtain ⟨j, hl, hf, rfl, rfl, rfl, rfl⟩ := h.ends hL hF
    simp [folX, endX, hab, hf]
end
/-- an exchange that is done hears a piece -/
theorem done_hears {x : ExM} (d : DdV) (S : List Hd) (hd : x.dn = true) (ha : x.ag = true) (hq : 0 ≤ d.q ∧ d.q ≤ 4294967295) : hearM x d S = (x, if sameM x d = true then (if x.ld then 0 else 1) else 3) := by
  have hf : fitsM x d = false := by simp [fitsM, hd]
  have h0 : ¬ (d.q < 0 ∨ 4294967295 < d.q) := by omega
  unfold hearM
  rw [if_neg h0, if_neg (by rw [ha]; simp), hf]
  cases sameM x d <;> simp

end Go.Proofs.Ytfpjkeddcagfcaa

/-
  Layer 14: an exchange hears its first piece: the example that each law asks first; an exchange that is not there.
-/
namespace Go.Proofs.Ytfpjkeddcagfcaa
open Go.RowKit Go.Sort

set_option maxHeartbeats 8000000 in
set_option maxRecDepth 100000 in
theorem hear_w (p : Nat) (w : World) (hp : Blk w p 65 (exA 1 2 5 false false false false false false 0 true true true 5 (.slice none 0 0) (.pointer none))) :
    Calls Try.prog 11 #[.pointer (some ⟨p, 0, none⟩), .agg #[.bool true, .bool true, .bool true, .int .i64 9, .slice none 0 0], .slice none 0 0] w fun r w' => r = .returned (.int .i64 2) ∧ (∃ s, Blk w' p 65 (exA 1 2 9 true false false true true true 9 false false false 9 (.slice none 0 0) (.pointer (some ⟨s, 0, none⟩)))) ∧ w.grownBy w' (some p) := by
  obtain ⟨w1, hw1⟩ : ∃ w1, w.alloc (.cells #[.bool true, .bool true, .bool true, .int .i64 9, .slice none 0 0] 33) = w1 := ⟨_, rfl⟩
  obtain ⟨g1, hg1⟩ : ∃ g1, w.heap.size = g1 := ⟨_, rfl⟩
  have hd := Blk.new w 33 #[.bool true, .bool true, .bool true, .int .i64 9, .slice none 0 0]
  have hb1 := below_new w (.cells #[.bool true, .bool true, .bool true, .int .i64 9, .slice none 0 0] 33)
  rw [hw1, hg1] at hd
  rw [hw1] at hb1
  obtain ⟨w2, hw2⟩ : ∃ w2, w1.alloc (.cells #[.bool true, .bool true, .bool true, .int .i64 9] 62) = w2 := ⟨_, rfl⟩
  obtain ⟨g2, hg2⟩ : ∃ g2, w1.heap.size = g2 := ⟨_, rfl⟩
  have hm := Blk.new w1 62 #[.bool true, .bool true, .bool true, .int .i64 9]
  have hb2 := below_new w1 (.cells #[.bool true, .bool true, .bool true, .int .i64 9] 62)
  rw [hw2, hg2] at hm
  rw [hw2] at hb2
  have hp1 := hp.below hb1 hp.lt
  have hp2 := hp1.below hb2 hp1.lt
  have hd2 := hd.below hb2 hd.lt
  have Hb2 := Lib.hid (gr_trans (gr_below (row := some p) hb1) (gr_below hb2))
  have HM := Lib.hid hm
  have HB := Lib.hid (begin_w p w2 hp2)
  have Hpg2 := Lib.hid (show p < g2 from by have := hp1.lt; omega)
  obtain ⟨x0, x1, x2, x3, x4, x5, x6, x7, x8, x9, xa, xb, xc, xd, xe, xf⟩ := blk16 hp2
  obtain ⟨d0, d1, d2, d3, d4⟩ := blk5 hd
  obtain ⟨e0, e1, e2, e3, e4⟩ := blk5 hd2
  clear hp hb1 hd hm hb2 hp1 hp2 hd2
  go_enter Try.func11, Try.ntmps11
  go_wp2_with fail
  with_reducible refine Calls.mono HB.out ?_
  rintro r w3 ⟨rfl, ⟨s, hp3⟩, hb3⟩
  have hm3 := HM.out.grown hb3 (fun e => by injection e with e; have := Hpg2.out; omega)
  have HP3 := Lib.hid hp3
  have Hb3 := Lib.hid (gr_trans Hb2.out hb3)
  have hfz := fun i => hp3.frozen i
  obtain ⟨m0, m1, m2, m3⟩ : _ ∧ _ ∧ _ ∧ _ := ⟨hm3.cell 0, hm3.cell 1, hm3.cell 2, hm3.cell 3⟩
  simp only [List.getElem?_toArray, List.getElem?_cons_zero, List.getElem?_cons_succ] at m0 m1 m2 m3
  clear x0 x1 x2 x3 x4 x5 x6 x7 x8 x9 xa xb xc xd xe xf d0 d1 d2 d3 d4 e0 e1 e2 e3 e4
  obtain ⟨x0, x1, x2, x3, x4, x5, x6, x7, x8, x9, xa, xb, xc, xd, xe, xf⟩ := blk16 hp3
  clear hp3 hb3 hm3
  go_wp2
  go_ret
  have hset := (((HP3.out.set_ 6 (.bool true)).set_ 7 (.bool true)).set_ 8 (.bool true)).set_ 9 (.int .i64 9)
  exact ⟨rfl, ⟨s, by simpa [exA] using hset⟩, gr_set (gr_set (gr_set (gr_set Hb3.out 6 _) 7 _) 8 _) 9 _⟩

theorem agreed_any (p : Nat) (b : Bool) (w : World) (h : w.cell? ⟨p, 3, none⟩ = some (.bool b)) : Calls Try.prog 21 #[.pointer (some ⟨p, 0, none⟩)] w fun r w' => r = .returned (.bool b) ∧ w' = w := by
  go_enter Try.func21, Try.ntmps21
  go_wp2
  go_ret
  exact ⟨rfl, rfl⟩
theorem leads_any (p : Nat) (b : Bool) (w : World) (h : w.cell? ⟨p, 4, none⟩ = some (.bool b)) : Calls Try.prog 18 #[.pointer (some ⟨p, 0, none⟩)] w fun r w' => r = .returned (.bool b) ∧ w' = w := by
  go_enter Try.func18, Try.ntmps18
  go_wp2
  go_ret
  exact ⟨rfl, rfl⟩
theorem seq_any (p : Nat) (n : Int) (w : World) (h : w.cell? ⟨p, 2, none⟩ = some (.int .i64 n)) : Calls Try.prog 22 #[.pointer (some ⟨p, 0, none⟩)] w fun r w' => r = .returned (.int .i64 n) ∧ w' = w := by
  go_enter Try.func22, Try.ntmps22
  go_wp2
  go_ret
  exact ⟨rfl, rfl⟩
set_option maxHeartbeats 4000000 in
set_option maxRecDepth 100000 in
theorem wakes14 (w : World) : Calls Try.prog 6 #[] w fun r w' => r = .returned (.bool true) ∧ Below w.heap.size w w' := by
  have HB0 := Lib.hid (fun o => below_new w o)
  go_enter Try.func6, Try.ntmps6
  go_wp2_with fail
  with_reducible refine Calls.mono (exNew _ _ _ _) ?_
  rintro r w1 ⟨rfl, hw1⟩
  have hp1 : Blk w1 w.heap.size 65 (exA 1 2 5 false false false false false false 0 true true true 5 (.slice none 0 0) (.pointer none)) := by rw [hw1]; exact Blk.new _ _ _
  have hb1 : Below w.heap.size w w1 := by rw [hw1]; exact HB0.out _
  have HH := Lib.hid (hear_w _ w1 hp1)
  have Hb1 := Lib.hid hb1
  clear hp1 hb1 hw1
  go_wp2_with fail
  with_reducible refine Calls.mono HH.out ?_
  rintro r w2 ⟨rfl, ⟨s, hp2⟩, hb2⟩
  obtain ⟨x0, x1, x2, x3, x4, x5, x6, x7, x8, x9, xa, xb, xc, xd, xe, xf⟩ := blk16 hp2
  have HA := Lib.hid (agreed_any _ true w2 x3)
  have HL := Lib.hid (leads_any _ false w2 x4)
  have HS := Lib.hid (seq_any _ 9 w2 x2)
  have Hb2 := Lib.hid (show Below w.heap.size w w2 from Hb1.out.grown hb2 Hb1.out.size (fun m e => by injection e with e; omega))
  clear hp2 hb2 x0 x1 x2 x3 x4 x5 x6 x7 x8 x9 xa xb xc xd xe xf
  go_wp2_with (first
    | (go_at_call 21; (with_reducible refine Calls.mono HA.out ?_); rintro r wx ⟨rfl, rfl⟩)
    | (go_at_call 18; (with_reducible refine Calls.mono HL.out ?_); rintro r wx ⟨rfl, rfl⟩)
    | (go_at_call 22; (with_reducible refine Calls.mono HS.out ?_); rintro r wx ⟨rfl, rfl⟩))
  go_ret
  exact ⟨rfl, Hb2.out⟩

theorem agreed_nil (w : World) : Calls Try.prog 21 #[.pointer none] w fun r w' => r = .returned (.bool false) ∧ w' = w := by
  go_enter Try.func21, Try.ntmps21
  go_wp2
  go_ret
  exact ⟨rfl, rfl⟩
theorem leads_nil (w : World) : Calls Try.prog 18 #[.pointer none] w fun r w' => r = .returned (.bool false) ∧ w' = w := by
  go_enter Try.func18, Try.ntmps18
  go_wp2
  go_ret
  exact ⟨rfl, rfl⟩
theorem done_nil (w : World) : Calls Try.prog 17 #[.pointer none] w fun r w' => r = .returned (.bool false) ∧ w' = w := by
  go_enter Try.func17, Try.ntmps17
  go_wp2
  go_ret
  exact ⟨rfl, rfl⟩
theorem seq_nil (w : World) : Calls Try.prog 22 #[.pointer none] w fun r w' => r = .returned (.int .i64 0) ∧ w' = w := by
  go_enter Try.func22, Try.ntmps22
  go_wp2
  go_ret
  exact ⟨rfl, rfl⟩
set_option maxHeartbeats 1000000 in
theorem hear_nil (b1 b2 b3 : Bool) (n : Int) (A : Option Addr) (m c : Nat) (w : World) : Calls Try.prog 11 #[.pointer none, .agg #[.bool b1, .bool b2, .bool b3, .int .i64 n, .slice A m c], .slice none 0 0] w fun r w' => r = .returned (.int .i64 0) ∧ Below w.heap.size w w' := by
  have HB0 := Lib.hid (fun o => below_new w o)
  go_enter Try.func11, Try.ntmps11
  go_wp2
  go_ret
  exact ⟨rfl, HB0.out _⟩
set_option maxHeartbeats 1000000 in
theorem say_nil (w : World) : Calls Try.prog 19 #[.pointer none] w fun r w' => r = .returned (.tuple #[.agg #[.bool false, .bool false, .bool false, .int .i64 0, .slice none 0 0], .bool false]) ∧ Below w.heap.size w w' := by
  go_enter Try.func19, Try.ntmps19
  go_wp2
  refine bodyPost_ret (v := .tuple #[.agg #[.bool false, .bool false, .bool false, .int .i64 0, .slice none 0 0], .bool false]) (by simp [results, Try.results19, go_sem]) rfl ⟨rfl, ?_⟩
  exact below_new _ _

end Go.Proofs.Ytfpjkeddcagfcaa
