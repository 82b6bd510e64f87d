/-
  Layer 14: one side hears another one of its own number.
-/
import Derived.Test.YtfpjkeddcagfcaaBaa
import Derived.Test.YtfpjkeddcagfcaaBab
import Derived.Test.YtfpjkeddcagfcaaBac
import Derived.Test.YtfpjkeddcagfcaaBad
namespace Go.Proofs.Ytfpjkeddcagfcaa
open Go.RowKit Go.Sort

/-- an exchange with its own number, that nobody told anything -/
abbrev exS (n0 n : Int) : Array Value := #[.int .i64 n0, .int .i64 n0, .int .i64 n, .bool false, .bool false, .bool false, .bool false, .bool false, .bool false, .int .i64 0, .bool true, .bool true, .bool true, .int .i64 n, .slice none 0 0, .pointer none]
theorem clone14_nil (w : World) : Calls Try.prog 33 #[.slice none 0 0] w fun r w' => r = .returned (.slice none 0 0) ∧ w' = w := by
  have hnil := fun (w : World) => Lib.run_eql_slice_nil (P := Try.prog) w 31 56 none 0 0 0 0 Try.underlying31
  go_enter Try.func33, Try.ntmps33
  go_wp2
  go_ret
  exact ⟨rfl, rfl⟩
theorem Blk.set5 {w : World} {g : Nat} {t : TypeId} {a b c d e : Value} (h : Blk w g t #[a, b, c, d, e]) (a' b' c' d' e' : Value) : Blk (((((w.setCell ⟨g, 0, none⟩ a').setCell ⟨g, 1, none⟩ b').setCell ⟨g, 2, none⟩ c').setCell ⟨g, 3, none⟩ d').setCell ⟨g, 4, none⟩ e') g t #[a', b', c', d', e'] := by
  have := ((((h.set_ 0 a').set_ 1 b').set_ 2 c').set_ 3 d').set_ 4 e'
  simpa using this
theorem below_set5 {B g : Nat} {w w' : World} (h : Below B w w') (hg : B ≤ g) (a' b' c' d' e' : Value) : Below B w (((((w'.setCell ⟨g, 0, none⟩ a').setCell ⟨g, 1, none⟩ b').setCell ⟨g, 2, none⟩ c').setCell ⟨g, 3, none⟩ d').setCell ⟨g, 4, none⟩ e') :=
  ((((h.setCell hg _).setCell hg _).setCell hg _).setCell hg _).setCell hg _
set_option maxHeartbeats 4000000 in
set_option maxRecDepth 100000 in
theorem say_self (p : Nat) (n0 n : Int) (w : World) (hp : Blk w p 65 (exS n0 n)) :
    Calls Try.prog 19 #[.pointer (some ⟨p, 0, none⟩)] w fun r w' => r = .returned (.tuple #[.agg #[.bool true, .bool true, .bool true, .int .i64 n, .slice none 0 0], .bool true]) ∧ Below w.heap.size w w' := by
  obtain ⟨w1, hw1⟩ : ∃ w1, w.alloc (.cells #[.bool false, .bool false, .bool false, .int .i64 0, .slice none 0 0] 33) = w1 := ⟨_, rfl⟩
  obtain ⟨g1, hg1⟩ : ∃ g1, w.heap.size = g1 := ⟨_, rfl⟩
  have hd1 := Blk.new w 33 #[.bool false, .bool false, .bool false, .int .i64 0, .slice none 0 0]
  have hb1 := below_new w (.cells #[.bool false, .bool false, .bool false, .int .i64 0, .slice none 0 0] 33)
  rw [hw1, hg1] at hd1
  rw [hw1] at hb1
  have hp1 := hp.below hb1 hp.lt
  obtain ⟨w2, hw2⟩ : ∃ w2, w1.alloc (.cells #[.bool true, .bool true, .bool true, .int .i64 n, .slice none 0 0] 33) = w2 := ⟨_, rfl⟩
  obtain ⟨g2, hg2⟩ : ∃ g2, w1.heap.size = g2 := ⟨_, rfl⟩
  have hd2 := Blk.new w1 33 #[.bool true, .bool true, .bool true, .int .i64 n, .slice none 0 0]
  have hb2 := below_new w1 (.cells #[.bool true, .bool true, .bool true, .int .i64 n, .slice none 0 0] 33)
  rw [hw2, hg2] at hd2
  rw [hw2] at hb2
  have hd12 := hd1.below hb2 hd1.lt
  have HD1 := Lib.hid hd12
  have HD2 := Lib.hid hd2
  have Hb2 := Lib.hid (below_trans hb1 hb1.size hb2)
  have Hg1 := Lib.hid hg1
  have Hg12 := Lib.hid (show g1 < g2 from by have := hd1.lt; omega)
  obtain ⟨x0, x1, x2, x3, x4, x5, x6, x7, x8, x9, xa, xb, xc, xd, xe, xf⟩ := blk16 hp1
  obtain ⟨d0, d1, d2, d3, d4⟩ := blk5 hd2
  have hfz2 := fun i => hd2.frozen i
  obtain ⟨c0, c1, c2, c3, c4⟩ := blk5 hd12
  have hfz1 := fun i => hd12.frozen i
  clear hp hd1 hb1 hp1 hd2 hb2 hd12
  go_enter Try.func19, Try.ntmps19
  go_wp2_with fail
  with_reducible refine Calls.mono (clone14_nil _) ?_
  rintro r w3 ⟨rfl, hw3⟩
  have hd23 : Blk w3 g2 33 #[.bool true, .bool true, .bool true, .int .i64 n, .slice none 0 0] := by rw [hw3]; simpa using HD2.out.set_ 4 (.slice none 0 0)
  have hd13 : Blk w3 g1 33 #[.bool false, .bool false, .bool false, .int .i64 0, .slice none 0 0] := by rw [hw3]; exact HD1.out.grown (grown_set w2 g2 4 _) (fun e => by injection e with e; have := Hg12.out; omega)
  have HD23 := Lib.hid hd23
  have HD13 := Lib.hid hd13
  have Hb3 := Lib.hid (show Below w.heap.size w w3 by rw [hw3]; exact Hb2.out.setCell (p := ⟨g2, 4, none⟩) (by have := Hg12.out; have := Hg1.out; show w.heap.size ≤ g2; omega) _)
  clear x0 x1 x2 x3 x4 x5 x6 x7 x8 x9 xa xb xc xd xe xf d0 d1 d2 d3 d4 c0 c1 c2 c3 c4 hfz1 hfz2 hw3 hw1 hw2 hg1 hg2
  obtain ⟨d0, d1, d2, d3, d4⟩ := blk5 hd23
  have f4 := hd23.frozen 4
  clear hd23 hd13
  go_upto_region 5 with fail
  obtain ⟨w5, hw5⟩ : ∃ w5, w3.setCell ⟨g2, 4, none⟩ (.slice none 0 0) = w5 := ⟨_, rfl⟩
  rw [hw5]
  have hd25 : Blk w5 g2 33 #[.bool true, .bool true, .bool true, .int .i64 n, .slice none 0 0] := by rw [← hw5]; simpa using HD23.out.set_ 4 (.slice none 0 0)
  have hd15 : Blk w5 g1 33 #[.bool false, .bool false, .bool false, .int .i64 0, .slice none 0 0] := by rw [← hw5]; exact HD13.out.grown (grown_set w3 g2 4 _) (fun e => by injection e with e; have := Hg12.out; omega)
  have HD15 := Lib.hid hd15
  have Hb5 := Lib.hid (show Below w.heap.size w w5 by rw [← hw5]; exact Hb3.out.setCell (p := ⟨g2, 4, none⟩) (by have := Hg12.out; have := Hg1.out; show w.heap.size ≤ g2; omega) _)
  clear d0 d1 d2 d3 d4 f4 hw5
  obtain ⟨d0, d1, d2, d3, d4⟩ := blk5 hd25
  obtain ⟨c0, c1, c2, c3, c4⟩ := blk5 hd15
  have hfz := fun i => hd15.frozen i
  clear hd25 hd15
  go_wp2
  refine bodyPost_named (v := .tuple #[.agg #[.bool true, .bool true, .bool true, .int .i64 n, .slice none 0 0], .bool true]) (fun W => Blk W g1 33 #[.bool true, .bool true, .bool true, .int .i64 n, .slice none 0 0]) (Blk.set5 HD15.out _ _ _ _ _) (fun W hB => by
    obtain ⟨e0, e1, e2, e3, e4⟩ := blk5 hB
    simp [results, Try.results19, go_sem, e0, e1, e2, e3, e4]) rfl ?_
  exact ⟨rfl, below_set5 Hb5.out (by have := Hg1.out; omega) _ _ _ _ _⟩

set_option maxHeartbeats 4000000 in
set_option maxRecDepth 100000 in
theorem begin_self (p : Nat) (n0 n n' : Int) (A : Option Addr) (m c : Nat) (w : World) (hp : Blk w p 65 (exS n0 n)) :
    Calls Try.prog 24 #[.pointer (some ⟨p, 0, none⟩), .agg #[.bool true, .bool true, .bool true, .int .i64 n', .slice none 0 0], .slice A m c] w fun r w' => r = .returned (.int .i64 0) ∧ Below w.heap.size w w' := by
  obtain ⟨w1, hw1⟩ : ∃ w1, w.alloc (.cells #[.bool true, .bool true, .bool true, .int .i64 n', .slice none 0 0] 33) = w1 := ⟨_, rfl⟩
  obtain ⟨g1, hg1⟩ : ∃ g1, w.heap.size = g1 := ⟨_, rfl⟩
  have hd := Blk.new w 33 #[.bool true, .bool true, .bool true, .int .i64 n', .slice none 0 0]
  have hb1 := below_new w (.cells #[.bool true, .bool true, .bool true, .int .i64 n', .slice none 0 0] 33)
  rw [hw1, hg1] at hd
  rw [hw1] at hb1
  have Hp1 := Lib.hid (hp.below hb1 hp.lt)
  have Hd := Lib.hid hd
  have Hb1 := Lib.hid hb1
  obtain ⟨x0, x1, x2, x3, x4, x5, x6, x7, x8, x9, xa, xb, xc, xd, xe, xf⟩ := blk16 Hp1.out
  obtain ⟨d0, d1, d2, d3, d4⟩ := blk5 hd
  clear hp hb1 hd
  go_enter Try.func24, Try.ntmps24
  go_wp2
  go_quiet (fail)
  have hb2 := below_drewN (Below.refl w1.heap.size w1) nq
  obtain ⟨w2, hw2⟩ : ∃ w2, w1.drewN nq = w2 := ⟨_, rfl⟩
  rw [hw2] at hb2 ⊢
  have Hp2 := Lib.hid (Hp1.out.below hb2 Hp1.out.lt)
  have Hd2 := Lib.hid (Hd.out.below hb2 Hd.out.lt)
  have Hb2 := Lib.hid (below_trans Hb1.out Hb1.out.size hb2)
  clear x0 x1 x2 x3 x4 x5 x6 x7 x8 x9 xa xb xc xd xe xf d0 d1 d2 d3 d4 hb2 hw2 hw1 hg1
  obtain ⟨x0, x1, x2, x3, x4, x5, x6, x7, x8, x9, xa, xb, xc, xd, xe, xf⟩ := blk16 Hp2.out
  obtain ⟨d0, d1, d2, d3, d4⟩ := blk5 Hd2.out
  go_wp2
  go_quiet (fail)
  go_wp2
  go_ret
  exact ⟨rfl, below_drewN Hb2.out _⟩
set_option maxHeartbeats 4000000 in
set_option maxRecDepth 100000 in
theorem hear_self (p : Nat) (n0 n n' : Int) (hn : 0 ≤ n' ∧ n' ≤ 4294967295) (A : Option Addr) (m c : Nat) (w : World) (hp : Blk w p 65 (exS n0 n)) :
    Calls Try.prog 11 #[.pointer (some ⟨p, 0, none⟩), .agg #[.bool true, .bool true, .bool true, .int .i64 n', .slice none 0 0], .slice A m c] w fun r w' => r = .returned (.int .i64 0) ∧ Below w.heap.size w w' := by
  obtain ⟨w1, hw1⟩ : ∃ w1, w.alloc (.cells #[.bool true, .bool true, .bool true, .int .i64 n', .slice none 0 0] 33) = w1 := ⟨_, rfl⟩
  obtain ⟨g1, hg1⟩ : ∃ g1, w.heap.size = g1 := ⟨_, rfl⟩
  have hd := Blk.new w 33 #[.bool true, .bool true, .bool true, .int .i64 n', .slice none 0 0]
  have hb1 := below_new w (.cells #[.bool true, .bool true, .bool true, .int .i64 n', .slice none 0 0] 33)
  rw [hw1, hg1] at hd
  rw [hw1] at hb1
  obtain ⟨w2, hw2⟩ : ∃ w2, w1.alloc (.cells #[.bool true, .bool true, .bool true, .int .i64 n'] 62) = w2 := ⟨_, rfl⟩
  have hb2 := below_new w1 (.cells #[.bool true, .bool true, .bool true, .int .i64 n'] 62)
  rw [hw2] at hb2
  have hp1 := hp.below hb1 hp.lt
  have hp2 := hp1.below hb2 hp1.lt
  have hd2 := hd.below hb2 hd.lt
  have Hb2 := Lib.hid (below_trans hb1 hb1.size hb2)
  have HB := Lib.hid (begin_self p n0 n n' A m c w2 hp2)
  obtain ⟨h0, h1⟩ := hn
  obtain ⟨x0, x1, x2, x3, x4, x5, x6, x7, x8, x9, xa, xb, xc, xd, xe, xf⟩ := blk16 hp2
  obtain ⟨d0, d1, d2, d3, d4⟩ := blk5 hd
  obtain ⟨e0, e1, e2, e3, e4⟩ := blk5 hd2
  clear hp hb1 hd hb2 hp1 hp2 hd2
  go_enter Try.func11, Try.ntmps11
  go_wp2_with fail
  with_reducible refine Calls.mono HB.out ?_
  rintro r w3 ⟨rfl, hb3⟩
  have Hb3 := Lib.hid (below_trans Hb2.out Hb2.out.size hb3)
  clear hb3 d0 d1 d2 d3 d4 e0 e1 e2 e3 e4 x0 x1 x2 x3 x4 x5 x6 x7 x8 x9 xa xb xc xd xe xf
  go_wp2
  go_ret
  exact ⟨rfl, Hb3.out⟩

end Go.Proofs.Ytfpjkeddcagfcaa

/-
  Layer 14: what an exchange says, to whoever asks.
-/
namespace Go.Proofs.Ytfpjkeddcagfcaa
open Go.RowKit Go.Sort

theorem own_new14 {α : Type} {e : TypeId} {C : Nat} {cells : α → List Value} (w : World) : OwnR e C cells (w.alloc (.cells #[] e)) w.heap.size (.slice (some ⟨w.heap.size, 0, none⟩) 0 0) ([] : List α) := by
  exact ⟨by simp, .inr ⟨w.heap.size, 0, #[], rfl, Nat.le_refl _, Blk.new w e #[], by simp, by unfold maxLen; omega, by simp, by simp⟩⟩
set_option maxHeartbeats 2000000 in
set_option maxRecDepth 100000 in
theorem cloneHd (A : Option Addr) (c : Nat) (M : List Hd) (w : World) (B : Nat) (h : RowsAt 7 Hd.cells w B A M) (hB : B ≤ w.heap.size) (hl : M.length ≤ 2 ^ 20) (n : Nat) (hn : n = M.length) :
    Calls Try.prog 33 #[.slice A n c] w fun r w' => ∃ v, r = .returned v ∧ OwnR 56 7 Hd.cells w' w.heap.size v M ∧ Below w.heap.size w w' := by
  subst hn
  cases A with
  | none =>
    have hM : M = [] := by
      rcases Nat.eq_zero_or_pos M.length with h0 | h0
      · exact List.eq_nil_of_length_eq_zero h0
      · obtain ⟨b, o, e, -⟩ := h h0
        cases e
    subst hM
    clear h
    have hnil := fun (w : World) => Lib.run_eql_slice_nil (P := Try.prog) w 31 56 none 0 c 0 0 Try.underlying31
    simp only [List.length_nil]
    go_enter Try.func33, Try.ntmps33
    go_wp2
    go_ret
    exact ⟨_, rfl, OwnR.nil _ _, Below.refl _ _⟩
  | some a =>
    have H := Lib.hid (h.more hB)
    have HE : Hid (OwnR 56 7 Hd.cells (w.alloc (.cells #[] 56)) w.heap.size (.slice (some ⟨w.heap.size, 0, none⟩) 0 0) ([] : List Hd)) := Lib.hid (own_new14 _)
    have hb1 := (Below.refl w.heap.size w).alloc (Nat.le_refl _) (.cells #[] 56)
    have Hb1 := Lib.hid hb1
    clear h hB hb1
    have hnil := fun (w : World) => Lib.run_eql_slice_nil (P := Try.prog) w 31 56 (some a) M.length c 0 0 Try.underlying31
    go_enter Try.func33, Try.ntmps33
    go_wp2_with (at_builtin; (refine app_rows (e := 56) Hd.cells (fun _ => rfl) (by decide) (bytes := 56) (by decide) infoHd13 rfl Try.underlying31 onesHd13 (by rfl) _ _ (by rfl) w.heap.size _ [] (by rfl) HE.out (some a) c M.length M rfl (by rfl) ((H.out.below Hb1.out).more (by simp)) (by simp; omega) (by simp) ?_); intro v5 w5 hown5 hg5 hor5; have Hown5 := Lib.hid hown5; have Hb5 := Lib.hid (Hb1.out.grown hg5 (by simp) (fun j hj => (HE.out.block j hj).1)); clear hown5 hg5 hor5)
    go_ret
    exact ⟨_, rfl, by simpa using Hown5.out, Hb5.out⟩
theorem done_any (p : Nat) (b : Bool) (w : World) (h : w.cell? ⟨p, 5, none⟩ = some (.bool b)) : Calls Try.prog 17 #[.pointer (some ⟨p, 0, none⟩)] w fun r w' => r = .returned (.bool b) ∧ w' = w := by
  go_enter Try.func17, Try.ntmps17
  go_wp2
  go_ret
  exact ⟨rfl, rfl⟩
set_option maxHeartbeats 4000000 in
set_option maxRecDepth 100000 in
theorem told_any (p s0 : Nat) (x : ExM) (w : World) (h : ExAt w p s0 x) (hl : x.said.hs.length ≤ 2 ^ 20) :
    Calls Try.prog 19 #[.pointer (some ⟨p, 0, none⟩)] w fun r w' => ∃ u, r = .returned (.tuple #[.agg #[.bool x.said.i, .bool x.said.m, .bool x.said.s, .int .i64 x.said.q, u], .bool true]) ∧ OwnR 56 7 Hd.cells w' w.heap.size u x.said.hs ∧ Below w.heap.size w w' := by
  obtain ⟨hv, hp, ho⟩ := h.ptr
  obtain ⟨a, b, n, ag, ld, dn, l1, l2, l3, l4, ⟨i, m, s, q, hs⟩, H, k⟩ := x
  simp only [ExM.ar] at hp ho hl ⊢
  obtain ⟨pv, hpv⟩ : ∃ pv, (if ag = true then Value.pointer (some ⟨s0, 0, none⟩) else Value.pointer none) = pv := ⟨_, rfl⟩
  rw [hpv] at hp
  clear hpv h
  obtain ⟨A, c, rfl⟩ := ho.shape
  have hrows := (OwnR.rows (C := 7) (cells := Hd.cells) (fun _ => rfl) ho).2
  obtain ⟨nh, hnh⟩ : ∃ z, hs.length = z := ⟨_, rfl⟩
  rw [hnh] at hp
  obtain ⟨w1, hw1⟩ : ∃ w1, w.alloc (.cells #[.bool false, .bool false, .bool false, .int .i64 0, .slice none 0 0] 33) = w1 := ⟨_, rfl⟩
  obtain ⟨g1, hg1⟩ : ∃ g1, w.heap.size = g1 := ⟨_, rfl⟩
  have hd1 := Blk.new w 33 #[.bool false, .bool false, .bool false, .int .i64 0, .slice none 0 0]
  have hb1 := below_new w (.cells #[.bool false, .bool false, .bool false, .int .i64 0, .slice none 0 0] 33)
  rw [hw1, hg1] at hd1
  rw [hw1] at hb1
  have hp1 := hp.below hb1 hp.lt
  obtain ⟨w2, hw2⟩ : ∃ w2, w1.alloc (.cells #[.bool i, .bool m, .bool s, .int .i64 q, .slice A nh c] 33) = w2 := ⟨_, rfl⟩
  obtain ⟨g2, hg2⟩ : ∃ g2, w1.heap.size = g2 := ⟨_, rfl⟩
  have hd2 := Blk.new w1 33 #[.bool i, .bool m, .bool s, .int .i64 q, .slice A nh c]
  have hb2 := below_new w1 (.cells #[.bool i, .bool m, .bool s, .int .i64 q, .slice A nh c] 33)
  rw [hw2, hg2] at hd2
  rw [hw2] at hb2
  have hd12 := hd1.below hb2 hd1.lt
  have hb12 := below_trans hb1 hb1.size hb2
  have HD1 := Lib.hid hd12
  have HD2 := Lib.hid hd2
  have Hb2 := Lib.hid hb12
  have Hg1 := Lib.hid hg1
  have Hg12 := Lib.hid (show g1 < g2 from by have := hd1.lt; omega)
  have HC := Lib.hid (fun W (hW : Below w.heap.size w W) => cloneHd A c hs W w.heap.size (hrows.below hW) hW.size hl nh hnh.symm)
  obtain ⟨x0, x1, x2, x3, x4, x5, x6, x7, x8, x9, xa, xb, xc, xd, xe, xf⟩ := blk16 hp1
  obtain ⟨d0, d1, d2, d3, d4⟩ := blk5 hd2
  have hfz2 := fun i => hd2.frozen i
  obtain ⟨c0, c1, c2, c3, c4⟩ := blk5 hd12
  have hfz1 := fun i => hd12.frozen i
  clear hp hd1 hb1 hp1 hd2 hb2 hd12 hb12 hrows ho hl
  go_enter Try.func19, Try.ntmps19
  go_wp2_with fail
  with_reducible refine Calls.mono (HC.out _ Hb2.out) ?_
  rintro r w3 ⟨v3, rfl, ho3, hb3⟩
  obtain ⟨A3, k3, hv3⟩ := ho3.shape
  rw [hnh] at hv3
  subst hv3
  have hd23 := HD2.out.below hb3 HD2.out.lt
  have HD23 := Lib.hid hd23
  have HD13 := Lib.hid (HD1.out.below hb3 HD1.out.lt)
  have Hb3 := Lib.hid (below_trans Hb2.out Hb2.out.size hb3)
  have Hg2 := Lib.hid (show g2 < w2.heap.size from HD2.out.lt)
  have HO3 := Lib.hid ho3
  have Hw2 := Lib.hid Hb2.out.size
  clear x0 x1 x2 x3 x4 x5 x6 x7 x8 x9 xa xb xc xd xe xf d0 d1 d2 d3 d4 c0 c1 c2 c3 c4 hfz1 hfz2 hw1 hw2 hg1 hg2 hb3 ho3
  obtain ⟨d0, d1, d2, d3, d4⟩ := blk5 hd23
  have f4 := hd23.frozen 4
  clear hd23
  go_upto_region 5 with fail
  obtain ⟨w5, hw5⟩ : ∃ w5, w3.setCell ⟨g2, 4, none⟩ (.slice A3 nh k3) = w5 := ⟨_, rfl⟩
  rw [hw5]
  have hd25 : Blk w5 g2 33 #[.bool i, .bool m, .bool s, .int .i64 q, .slice A3 nh k3] := by rw [← hw5]; simpa using HD23.out.set_ 4 (.slice A3 nh k3)
  have hd15 : Blk w5 g1 33 #[.bool false, .bool false, .bool false, .int .i64 0, .slice none 0 0] := by rw [← hw5]; exact HD13.out.grown (grown_set w3 g2 4 _) (fun e => by injection e with e; have := Hg12.out; omega)
  have HD15 := Lib.hid hd15
  have HO5 := Lib.hid (show OwnR 56 7 Hd.cells w5 w2.heap.size (.slice A3 nh k3) hs by rw [← hw5]; exact HO3.out.set_ Hg2.out _)
  have Hb5 := Lib.hid (show Below w.heap.size w w5 by rw [← hw5]; exact Hb3.out.setCell (p := ⟨g2, 4, none⟩) (by have := Hg12.out; have := Hg1.out; show w.heap.size ≤ g2; omega) _)
  have Hg1w := Lib.hid (show g1 < w2.heap.size from HD1.out.lt)
  clear d0 d1 d2 d3 d4 f4 hw5
  obtain ⟨d0, d1, d2, d3, d4⟩ := blk5 hd25
  obtain ⟨c0, c1, c2, c3, c4⟩ := blk5 hd15
  have hfz := fun i => hd15.frozen i
  clear hd25 hd15
  go_wp2
  refine bodyPost_named (v := .tuple #[.agg #[.bool i, .bool m, .bool s, .int .i64 q, .slice A3 nh k3], .bool true]) (fun W => Blk W g1 33 #[.bool i, .bool m, .bool s, .int .i64 q, .slice A3 nh k3]) (Blk.set5 HD15.out _ _ _ _ _) (fun W hB => by
    obtain ⟨e0, e1, e2, e3, e4⟩ := blk5 hB
    simp [results, Try.results19, go_sem, e0, e1, e2, e3, e4]) rfl ?_
  refine ⟨_, rfl, ?_, below_set5 Hb5.out (by have := Hg1.out; omega) _ _ _ _ _⟩
  exact (((((HO5.out.set_ (p := ⟨g1, 0, none⟩) Hg1w.out _).set_ (p := ⟨g1, 1, none⟩) Hg1w.out _).set_ (p := ⟨g1, 2, none⟩) Hg1w.out _).set_ (p := ⟨g1, 3, none⟩) Hg1w.out _).set_ (p := ⟨g1, 4, none⟩) Hg1w.out _).lower Hw2.out

end Go.Proofs.Ytfpjkeddcagfcaa

/-
  Layer 14: an exchange says the piece it is at.
-/
namespace Go.Proofs.Ytfpjkeddcagfcaa
open Go.RowKit Go.Sort

set_option maxHeartbeats 16000000 in
set_option maxRecDepth 100000 in
theorem say_any (p s : Nat) (x : ExM) (w : World) (h : ExAt w p s x) (hag : x.ag = true) :
    Calls Try.prog 35 #[.pointer (some ⟨p, 0, none⟩)] w fun r w' => r = .returned (.tuple #[]) ∧ ExAt w' p s (sayM x) ∧ w.grownBy w' (some p) := by
  obtain ⟨a, b, n, ag, ld, dn, l1, l2, l3, l4, ⟨si, sm, ss, sq, shs⟩, H, k⟩ := x
  simp only at hag
  subst hag
  obtain ⟨hv, hp, ho⟩ := h.ptr
  obtain ⟨v, hs⟩ := h.sum rfl
  obtain ⟨hk, hH⟩ := h.le rfl
  have HR := Lib.hid h.rng
  simp only [ExM.ar, if_true] at hp ho hs hk hH
  obtain ⟨t, ht⟩ : ∃ t, decide (k + 3 < H.length) = t := ⟨_, rfl⟩
  have CM := Lib.hid (fun W (hW : Below w.heap.size w W) => SuMore_any s v k H W (hs.keep hW) hk (by omega))
  rw [ht] at CM
  have CP := Lib.hid (fun W (hW : Below w.heap.size w W) => SuPiece_any s v k H W (hs.keep hW) hk (by omega))
  have HP := Lib.hid hp
  have HS := Lib.hid hs
  have HL := Lib.hid (And.intro hk hH)
  have HX := Lib.hid (fun W (hW : Below w.heap.size w W) => blk16 (hp.below hW hp.lt))
  have Ht := Lib.hid ht
  clear h ho hs hk hH ht
  obtain ⟨x0, x1, x2, x3, x4, x5, x6, x7, x8, x9, xa, xb, xc, xd, xe, xf⟩ := blk16 hp
  clear hp x0 x1 x3 x5 x6 x7 x8 x9 xa xb xc xd xe
  go_enter Try.func35, Try.ntmps35
  go_wp2_with fail
  refine wp_region_F (F := fun W => Below w.heap.size w W) (n := 22) (m := 23) (s := #[false, false, false, false, false, false, false, false, false, false, false, false, false, false, false, false, false, false, false, false, false, false, false]) (by kernel_rfl) (by kernel_rfl) (by kernel_rfl) ?_
  intro wd hwd
  have hF : Below w.heap.size w wd := by rw [hwd.out]; exact (Below.refl _ _).drew
  clear hwd
  refine F_take (i := 0) (d := some 2) (by kernel_rfl) (by kernel_rfl) (by decide) (s' := #[true, false, false, false, false, false, false, false, false, false, false, false, false, false, false, false, false, false, false, false, false, false, false]) (by kernel_rfl) rfl rfl (by kernel_rfl) (by kernel_rfl) (by kernel_rfl) (fun _ _ _ h => h) (Or.inl ⟨by kernel_rfl, fun W hW => by go_simp; try with_reducible rfl⟩) hF ?_
  go_frame
  refine F_take (i := 1) (d := some 3) (by kernel_rfl) (by kernel_rfl) (by decide) (s' := #[true, true, false, false, false, false, false, false, false, false, false, false, false, false, false, false, false, false, false, false, false, false, false]) (by kernel_rfl) rfl rfl (by kernel_rfl) (by kernel_rfl) (by kernel_rfl) (fun _ _ _ h => h) (Or.inl ⟨by kernel_rfl, fun W hW => by go_simp; try with_reducible rfl⟩) hF ?_
  go_frame
  refine F_take (i := 2) (d := some 4) (by kernel_rfl) (by kernel_rfl) (by decide) (s' := #[true, true, true, false, false, false, false, false, false, false, false, false, false, false, false, false, false, false, false, false, false, false, false]) (by kernel_rfl) rfl rfl (by kernel_rfl) (by kernel_rfl) (by kernel_rfl) (fun _ _ _ h => h) (Or.inl ⟨by kernel_rfl, fun W hW => by go_simp; try with_reducible rfl⟩) hF ?_
  go_frame
  refine F_take (i := 3) (d := some 5) (by kernel_rfl) (by kernel_rfl) (by decide) (s' := #[true, true, true, true, false, false, false, false, false, false, false, false, false, false, false, false, false, false, false, false, false, false, false]) (by kernel_rfl) rfl rfl (by kernel_rfl) (by kernel_rfl) (by kernel_rfl) (fun _ _ _ h => h) (Or.inl ⟨by kernel_rfl, fun W hW => by go_simp; try with_reducible rfl⟩) hF ?_
  go_frame
  refine F_take (i := 4) (d := some 6) (by kernel_rfl) (by kernel_rfl) (by decide) (s' := #[true, true, true, true, true, false, false, false, false, false, false, false, false, false, false, false, false, false, false, false, false, false, false]) (by kernel_rfl) rfl rfl (by kernel_rfl) (by kernel_rfl) (by kernel_rfl) (fun _ _ _ h => h) (Or.inl ⟨by kernel_rfl, fun W hW => by obtain ⟨y0, y1, y2, y3, y4, y5, y6, y7, y8, y9, ya, yb, yc, yd, ye, yf⟩ := HX.out W hW; go_simp; try with_reducible rfl⟩) hF ?_
  go_frame
  refine F_take (i := 6) (d := some 8) (by kernel_rfl) (by kernel_rfl) (by decide) (s' := #[true, true, true, true, true, false, true, false, false, false, false, false, false, false, false, false, false, false, false, false, false, false, false]) (by kernel_rfl) rfl rfl (by kernel_rfl) (by kernel_rfl) (by kernel_rfl) (fun _ _ _ h => h) (Or.inl ⟨by kernel_rfl, fun W hW => by go_simp; try with_reducible rfl⟩) hF ?_
  go_frame
  refine F_take (i := 7) (d := some 9) (by kernel_rfl) (by kernel_rfl) (by decide) (s' := #[true, true, true, true, true, false, true, true, false, false, false, false, false, false, false, false, false, false, false, false, false, false, false]) (by kernel_rfl) rfl rfl (by kernel_rfl) (by kernel_rfl) (by kernel_rfl) (fun _ _ _ h => h) (Or.inl ⟨by kernel_rfl, fun W hW => by go_simp; try with_reducible rfl⟩) hF ?_
  go_frame
  refine F_take (i := 8) (d := some 10) (by kernel_rfl) (by kernel_rfl) (by decide) (s' := #[true, true, true, true, true, false, true, true, true, false, false, false, false, false, false, false, false, false, false, false, false, false, false]) (by kernel_rfl) rfl rfl (by kernel_rfl) (by kernel_rfl) (by kernel_rfl) (fun _ _ _ h => h) (Or.inl ⟨by kernel_rfl, fun W hW => by go_simp; try with_reducible rfl⟩) hF ?_
  go_frame
  refine F_take (i := 9) (d := some 11) (by kernel_rfl) (by kernel_rfl) (by decide) (s' := #[true, true, true, true, true, false, true, true, true, true, false, false, false, false, false, false, false, false, false, false, false, false, false]) (by kernel_rfl) rfl rfl (by kernel_rfl) (by kernel_rfl) (by kernel_rfl) (fun _ _ _ h => h) (Or.inl ⟨by kernel_rfl, fun W hW => by obtain ⟨y0, y1, y2, y3, y4, y5, y6, y7, y8, y9, ya, yb, yc, yd, ye, yf⟩ := HX.out W hW; go_simp; try with_reducible rfl⟩) hF ?_
  go_frame
  refine F_take (i := 10) (d := some 12) (by kernel_rfl) (by kernel_rfl) (by decide) (s' := #[true, true, true, true, true, false, true, true, true, true, true, false, false, false, false, false, false, false, false, false, false, false, false]) (by kernel_rfl) rfl rfl (by kernel_rfl) (by kernel_rfl) (by kernel_rfl) (fun _ _ _ h => h) (Or.inl ⟨by kernel_rfl, fun W hW => by go_simp; try with_reducible rfl⟩) hF ?_
  go_frame
  refine F_take (i := 11) (d := some 13) (by kernel_rfl) (by kernel_rfl) (by decide) (s' := #[true, true, true, true, true, false, true, true, true, true, true, true, false, false, false, false, false, false, false, false, false, false, false]) (by kernel_rfl) rfl rfl (by kernel_rfl) (by kernel_rfl) (by kernel_rfl) (fun _ _ _ h => h) (Or.inl ⟨by kernel_rfl, fun W hW => by go_simp; try with_reducible rfl⟩) hF ?_
  go_frame
  refine F_take (i := 12) (d := some 14) (by kernel_rfl) (by kernel_rfl) (by decide) (s' := #[true, true, true, true, true, false, true, true, true, true, true, true, true, false, false, false, false, false, false, false, false, false, false]) (by kernel_rfl) rfl rfl (by kernel_rfl) (by kernel_rfl) (by kernel_rfl) (fun _ _ _ h => h) (Or.inl ⟨by kernel_rfl, fun W hW => by go_simp; try with_reducible rfl⟩) hF ?_
  go_frame
  refine F_take (i := 13) (d := some 15) (by kernel_rfl) (by kernel_rfl) (by decide) (s' := #[true, true, true, true, true, false, true, true, true, true, true, true, true, true, false, false, false, false, false, false, false, false, false]) (by kernel_rfl) rfl rfl (by kernel_rfl) (by kernel_rfl) (by kernel_rfl) (fun _ _ _ h => h) (Or.inl ⟨by kernel_rfl, fun W hW => by obtain ⟨y0, y1, y2, y3, y4, y5, y6, y7, y8, y9, ya, yb, yc, yd, ye, yf⟩ := HX.out W hW; go_simp; try with_reducible rfl⟩) hF ?_
  go_frame
  refine F_take (i := 14) (d := some 16) (by kernel_rfl) (by kernel_rfl) (by decide) (s' := #[true, true, true, true, true, false, true, true, true, true, true, true, true, true, true, false, false, false, false, false, false, false, false]) (by kernel_rfl) rfl rfl (by kernel_rfl) (by kernel_rfl) (by kernel_rfl) (fun _ _ _ h => h) (Or.inl ⟨by kernel_rfl, fun W hW => by go_simp; try with_reducible rfl⟩) hF ?_
  go_frame
  refine F_take (i := 15) (d := some 17) (by kernel_rfl) (by kernel_rfl) (by decide) (s' := #[true, true, true, true, true, false, true, true, true, true, true, true, true, true, true, true, false, false, false, false, false, false, false]) (by kernel_rfl) rfl rfl (by kernel_rfl) (by kernel_rfl) (by kernel_rfl) (fun _ _ _ h => h) (Or.inl ⟨by kernel_rfl, fun W hW => by go_simp; try with_reducible rfl⟩) hF ?_
  go_frame
  refine F_take (i := 16) (d := some 18) (by kernel_rfl) (by kernel_rfl) (by decide) (s' := #[true, true, true, true, true, false, true, true, true, true, true, true, true, true, true, true, true, false, false, false, false, false, false]) (by kernel_rfl) rfl rfl (by kernel_rfl) (by kernel_rfl) (by kernel_rfl) (fun _ _ _ h => h) (Or.inl ⟨by kernel_rfl, fun W hW => by go_simp; try with_reducible rfl⟩) hF ?_
  go_frame
  refine F_take (i := 17) (d := some 19) (by kernel_rfl) (by kernel_rfl) (by decide) (s' := #[true, true, true, true, true, false, true, true, true, true, true, true, true, true, true, true, true, true, false, false, false, false, false]) (by kernel_rfl) rfl rfl (by kernel_rfl) (by kernel_rfl) (by kernel_rfl) (fun _ _ _ h => h) (Or.inl ⟨by kernel_rfl, fun W hW => by obtain ⟨y0, y1, y2, y3, y4, y5, y6, y7, y8, y9, ya, yb, yc, yd, ye, yf⟩ := HX.out W hW; go_simp; try with_reducible rfl⟩) hF ?_
  go_frame
  clear x2 x4 xf
  refine F_one (i := 5) (s' := #[true, true, true, true, true, true, true, true, true, true, true, true, true, true, true, true, true, true, false, false, false, false, false]) (by kernel_rfl) (by kernel_rfl) ?_
  refine wpOp_enterL (i := 5) (d := some 7) (f := 41) (args := #[.pointer (some ⟨s, 0, none⟩)]) rfl rfl (by kernel_rfl) (by go_simp) (Calls.mono (CM.out _ hF) ?_)
  rintro r w5 ⟨rfl, hb5⟩
  have hF5 := below_trans hF hF.size hb5
  clear hF hb5
  have hF := hF5
  clear hF5
  refine ⟨_, rfl, fun _ => hF, ?_⟩
  go_frame
  refine F_one (i := 18) (s' := #[true, true, true, true, true, true, true, true, true, true, true, true, true, true, true, true, true, true, true, false, false, false, false]) (by kernel_rfl) (by kernel_rfl) ?_
  refine wpOp_enterL (i := 18) (d := some 20) (f := 42) (args := #[.pointer (some ⟨s, 0, none⟩)]) rfl rfl (by kernel_rfl) (by go_simp) (Calls.mono (CP.out _ hF) ?_)
  rintro r w6 ⟨⟨u, rfl, hu⟩, hb6⟩
  have hF6 := below_trans hF hF.size hb6
  clear hF hb6
  have hF := hF6
  clear hF6
  obtain ⟨Au, cu, hvu⟩ := hu.shape
  obtain ⟨nu, hnu⟩ : ∃ q, (pieceAt H k).length = q := ⟨_, rfl⟩
  rw [hnu] at hvu
  subst hvu
  refine ⟨_, rfl, fun _ => hF, ?_⟩
  go_frame
  refine F_take (i := 19) (d := some 21) (by kernel_rfl) (by kernel_rfl) (by decide) (s' := #[true, true, true, true, true, true, true, true, true, true, true, true, true, true, true, true, true, true, true, true, false, false, false]) (by kernel_rfl) rfl rfl (by kernel_rfl) (by kernel_rfl) (by kernel_rfl) (fun _ _ _ h => h) (Or.inl ⟨by kernel_rfl, fun W hW => by go_simp; try with_reducible rfl⟩) hF ?_
  go_frame
  refine F_take (i := 20) (d := some 22) (by kernel_rfl) (by kernel_rfl) (by decide) (s' := #[true, true, true, true, true, true, true, true, true, true, true, true, true, true, true, true, true, true, true, true, true, false, false]) (by kernel_rfl) rfl rfl (by kernel_rfl) (by kernel_rfl) (by kernel_rfl) (fun _ _ _ h => h) (Or.inl ⟨by kernel_rfl, fun W hW => by go_simp; try with_reducible rfl⟩) hF ?_
  go_frame
  refine F_take (i := 21) (d := some 23) (by kernel_rfl) (by kernel_rfl) (by decide) (s' := #[true, true, true, true, true, true, true, true, true, true, true, true, true, true, true, true, true, true, true, true, true, true, false]) (by kernel_rfl) rfl rfl (by kernel_rfl) (by kernel_rfl) (by kernel_rfl) (fun _ _ _ h => h) (Or.inl ⟨by kernel_rfl, fun W hW => by go_simp; try with_reducible rfl⟩) hF ?_
  go_frame
  have hp6 := HP.out.below hF HP.out.lt
  have hfz := fun i => hp6.frozen i
  obtain ⟨y0, y1, y2, y3, y4, y5, y6, y7, y8, y9, ya, yb, yc, yd, ye, yf⟩ := blk16 hp6
  have hset := ((((hp6.set_ 10 (.bool false)).set_ 11 (.bool t)).set_ 12 (.bool ld)).set_ 13 (.int .i64 n)).set_ 14 (.slice Au nu cu)
  have hgr := gr_set (gr_set (gr_set (gr_set (gr_set (gr_below (row := some p) hF) 10 (.bool false)) 11 (.bool t)) 12 (.bool ld)) 13 (.int .i64 n)) 14 (.slice Au nu cu)
  have hou := ((((hu.kept (grown_set w6 p 10 (.bool false)) (.inr (own_ne14 hu hp6 (by decide)))).kept (grown_set _ p 11 (.bool t)) (.inr (own_ne14 hu hp6 (by decide)))).kept (grown_set _ p 12 (.bool ld)) (.inr (own_ne14 hu hp6 (by decide)))).kept (grown_set _ p 13 (.int .i64 n)) (.inr (own_ne14 hu hp6 (by decide)))).kept (grown_set _ p 14 (.slice Au nu cu)) (.inr (own_ne14 hu hp6 (by decide)))
  obtain ⟨wz, hwz⟩ : ∃ W, ((((w6.setCell ⟨p, 10, none⟩ (.bool false)).setCell ⟨p, 11, none⟩ (.bool t)).setCell ⟨p, 12, none⟩ (.bool ld)).setCell ⟨p, 13, none⟩ (.int .i64 n)).setCell ⟨p, 14, none⟩ (.slice Au nu cu) = W := ⟨_, rfl⟩
  rw [hwz] at hset hgr hou
  refine F_one (i := 22) (s' := #[true, true, true, true, true, true, true, true, true, true, true, true, true, true, true, true, true, true, true, true, true, true, true]) (by kernel_rfl) (by kernel_rfl) (wpOp_skipL (i := 22) (w' := wz) rfl rfl (by kernel_rfl) (by go_simp) ⟨fun h => absurd h (by decide), ?_⟩)
  go_frame
  refine F_done (by kernel_rfl) ?_ _
  clear hwz hF y0 y1 y2 y3 y4 y5 y6 y7 y8 y9 ya yb yc yd ye yf hfz
  go_wp2
  refine bodyPost_end (results_none rfl _ _ _) rfl ?_
  have hsv : ∃ v, SmAt wz s v k H := by
    have hps : p ≠ s := fun e => by have h1 := blk_type (e ▸ HP.out) HS.out.ptr; revert h1; decide
    exact ⟨v, HS.out.ptr.grown hgr (fun e => hps (by injection e with e; exact e.symm)), HS.out.own.kept hgr (.inr (own_ne14 HS.out.own HP.out (by decide)))⟩
  refine ⟨rfl, ⟨⟨.slice Au nu cu, by simpa [exA, ExM.ar, sayM, Ht.out] using hset, hou.lower (Nat.zero_le _)⟩, fun _ => hsv, fun _ => HL.out, HR.out⟩, hgr⟩

end Go.Proofs.Ytfpjkeddcagfcaa

/-
  Layer 14: the document's exchange in memory; its pieces; what it says.
-/
namespace Go.Proofs.Ytfpjkeddcagfcaa
open Go.RowKit Go.Sort

/-- the document's exchange: its cells -/
def rxA (a b n : Int) (ag ld dn l1 l2 l3 : Bool) (l4 : Int) (hl : Value) (s1 s2 s3 : Bool) (s4 : Int) (hv pv : Value) (j : Int) : Array Value :=
  #[.int .i64 a, .int .i64 b, .int .i64 n, .bool ag, .bool ld, .bool dn, .bool l1, .bool l2, .bool l3, .int .i64 l4, hl, .bool s1, .bool s2, .bool s3, .int .i64 s4, hv, pv, .int .i64 j]
theorem blk18 {w : World} {g : Nat} {t : TypeId} {x0 x1 x2 x3 x4 x5 x6 x7 x8 x9 xa xb xc xd xe xf xg xh : Value} (h : Blk w g t #[x0, x1, x2, x3, x4, x5, x6, x7, x8, x9, xa, xb, xc, xd, xe, xf, xg, xh]) : w.cell? ⟨g, 0, none⟩ = some x0 ∧ w.cell? ⟨g, 1, none⟩ = some x1 ∧ w.cell? ⟨g, 2, none⟩ = some x2 ∧ w.cell? ⟨g, 3, none⟩ = some x3 ∧ w.cell? ⟨g, 4, none⟩ = some x4 ∧ w.cell? ⟨g, 5, none⟩ = some x5 ∧ w.cell? ⟨g, 6, none⟩ = some x6 ∧ w.cell? ⟨g, 7, none⟩ = some x7 ∧ w.cell? ⟨g, 8, none⟩ = some x8 ∧ w.cell? ⟨g, 9, none⟩ = some x9 ∧ w.cell? ⟨g, 10, none⟩ = some xa ∧ w.cell? ⟨g, 11, none⟩ = some xb ∧ w.cell? ⟨g, 12, none⟩ = some xc ∧ w.cell? ⟨g, 13, none⟩ = some xd ∧ w.cell? ⟨g, 14, none⟩ = some xe ∧ w.cell? ⟨g, 15, none⟩ = some xf ∧ w.cell? ⟨g, 16, none⟩ = some xg ∧ w.cell? ⟨g, 17, none⟩ = some xh :=
  ⟨h.cell 0, h.cell 1, h.cell 2, h.cell 3, h.cell 4, h.cell 5, h.cell 6, h.cell 7, h.cell 8, h.cell 9, h.cell 10, h.cell 11, h.cell 12, h.cell 13, h.cell 14, h.cell 15, h.cell 16, h.cell 17⟩
/-- a slice as a value -/
structure SlV where
  a : Option Addr
  n : Nat
  c : Nat
def SlV.val (x : SlV) : Value := .slice x.a x.n x.c
abbrev vcell (v : SlV) : List Value := [v.val]
/-- all pieces, laid out -/
structure Pcs (w : World) (pv : Value) (V : List SlV) (H : List Hd) : Prop where
  row : OwnR 31 1 vcell w 0 pv V
  each : ∀ j (hj : j < V.length), OwnR 56 7 Hd.cells w 0 V[j].val (pieceAt H (3 * j))
  num : V.length = if H.length = 0 then 1 else (H.length + 2) / 3
theorem Pcs.more {w : World} {pv : Value} {V : List SlV} {H : List Hd} (h : Pcs w pv V H) (j : Nat) : decide (j + 1 < V.length) = moreP H j := by
  have := h.num
  unfold moreP
  rw [Bool.eq_iff_iff, decide_eq_true_eq, decide_eq_true_eq]
  split at this <;> omega
theorem Pcs.past {w : World} {pv : Value} {V : List SlV} {H : List Hd} (h : Pcs w pv V H) {j : Nat} (hj : V.length ≤ j) : pcP H j = [] ∧ moreP H j = false := by
  have := h.num
  have h3 : H.length ≤ 3 * j := by split at this <;> omega
  refine ⟨?_, ?_⟩
  · unfold pcP pieceAt kOf
    rw [if_neg (by omega), List.drop_eq_nil_of_le (Nat.le_refl _), List.take_nil]
  · unfold moreP
    rw [decide_eq_false_iff_not]
    omega
theorem Pcs.here {w : World} {pv : Value} {V : List SlV} {H : List Hd} (h : Pcs w pv V H) {j : Nat} (hj : j < V.length) : OwnR 56 7 Hd.cells w 0 V[j].val (pcP H j) := by
  have h1 := h.each j hj
  have := h.num
  unfold pcP kOf
  split
  · exact h1
  · have h0 : H.length = 0 := by split at this <;> omega
    have e : ∀ k, pieceAt H k = [] := fun k => by unfold pieceAt; rw [List.eq_nil_of_length_eq_zero h0]; simp
    rw [e] at h1 ⊢
    exact h1
theorem Pcs.below {w w' : World} {pv : Value} {V : List SlV} {H : List Hd} (h : Pcs w pv V H) (hb : Below w.heap.size w w') : Pcs w' pv V H := ⟨h.row.below hb, fun j hj => (h.each j hj).below hb, h.num⟩
/-- a block of another type grows -/
theorem Pcs.grown {w w' : World} {pv : Value} {V : List SlV} {H : List Hd} {p : Nat} {t : TypeId} {cs : Array Value} (h : Pcs w pv V H) (hb : Blk w p t cs) (h1 : 31 ≠ t) (h2 : 56 ≠ t) (hg : w.grownBy w' (some p)) : Pcs w' pv V H :=
  ⟨h.row.kept hg (.inr (own_ne14 h.row hb h1)), fun j hj => (h.each j hj).kept hg (.inr (own_ne14 (h.each j hj) hb h2)), h.num⟩
theorem Pcs.cell {w : World} {A : Option Addr} {n c : Nat} {V : List SlV} {H : List Hd} (h : Pcs w (.slice A n c) V H) {j : Nat} (hj : j < V.length) : ∃ g, A = some ⟨g, 0, none⟩ ∧ w.cell? ⟨g, j, none⟩ = some V[j].val := by
  rcases h.row.2 with ⟨e, h0⟩ | ⟨g, cap, cur, e, h1⟩
  · omega
  · injection e with e1 e2 e3
    refine ⟨g, e1, ?_⟩
    obtain ⟨g2, o, e4, hb, hc⟩ := (OwnR.rows (C := 1) (cells := vcell) (fun _ => rfl) h.row).2 (by omega)
    rw [e1] at e4
    injection e4 with e4
    injection e4 with e5 e6
    subst e5 e6
    simpa using hc j hj 0 _ (by omega) rfl
set_option maxHeartbeats 4000000 in
set_option maxRecDepth 100000 in
theorem rxSay_any (p : Nat) (a b n : Int) (ag ld dn l1 l2 l3 : Bool) (l4 : Int) (hl : Value) (s1 s2 s3 : Bool) (s4 : Int) (hv pv : Value) (j : Nat) (V : List SlV) (H : List Hd) (w : World) (hp : Blk w p 68 (rxA a b n ag ld dn l1 l2 l3 l4 hl s1 s2 s3 s4 hv pv j)) (hP : Pcs w pv V H) (hj : j ≤ 2 ^ 20) (hH : H.length ≤ 2 ^ 20) :
    Calls Try.prog 28 #[.pointer (some ⟨p, 0, none⟩)] w fun r w' => r = .returned (.tuple #[]) ∧ (∃ hv', Blk w' p 68 (rxA a b n ag ld dn l1 l2 l3 l4 hl false (moreP H j) ld n hv' pv j) ∧ OwnR 56 7 Hd.cells w' 0 hv' (pcP H j)) ∧ w.grownBy w' (some p) := by
  have HP := Lib.hid hp
  have HPc := Lib.hid hP
  obtain ⟨x0, x1, x2, x3, x4, x5, x6, x7, x8, x9, xa, xb, xc, xd, xe, xf, xg, xh⟩ := blk18 hp
  have hfz := fun i => hp.frozen i
  obtain ⟨A, c, hpv⟩ := hP.row.shape
  obtain ⟨nv, hnv⟩ : ∃ z, V.length = z := ⟨_, rfl⟩
  rw [hnv] at hpv
  subst hpv
  have hj2 : (j : Int) ≤ 1048576 := by omega
  have hnb : (nv : Int) ≤ 1048576 := by have := hP.num; split at this <;> omega
  clear hp hP
  go_enter Try.func28, Try.ntmps28
  go_wp2_with fail
  go_region
  obtain ⟨w1, hw1⟩ : ∃ w1, (((((w.setCell ⟨p, 11, none⟩ (.bool false)).setCell ⟨p, 12, none⟩ (.bool false)).setCell ⟨p, 13, none⟩ (.bool ld)).setCell ⟨p, 14, none⟩ (.int .i64 n)).setCell ⟨p, 15, none⟩ (.slice none 0 0)).drew = w1 := ⟨_, rfl⟩
  rw [hw1]
  have hg1 : w.grownBy w1 (some p) := by rw [← hw1]; exact gr_trans (gr_set (gr_set (gr_set (gr_set (grown_set w p 11 _) 12 _) 13 _) 14 _) 15 _) (gr_below ((Below.refl _ _).drew))
  have hp1 : Blk w1 p 68 (rxA a b n ag ld dn l1 l2 l3 l4 hl false false ld n (.slice none 0 0) (.slice A nv c) j) := by
    rw [← hw1]
    have hset := ((((HP.out.set_ 11 (.bool false)).set_ 12 (.bool false)).set_ 13 (.bool ld)).set_ 14 (.int .i64 n)).set_ 15 (.slice none 0 0)
    have hset2 : Blk (((((w.setCell ⟨p, 11, none⟩ (.bool false)).setCell ⟨p, 12, none⟩ (.bool false)).setCell ⟨p, 13, none⟩ (.bool ld)).setCell ⟨p, 14, none⟩ (.int .i64 n)).setCell ⟨p, 15, none⟩ (.slice none 0 0)) p 68 (rxA a b n ag ld dn l1 l2 l3 l4 hl false false ld n (.slice none 0 0) (.slice A nv c) j) := by simpa [rxA] using hset
    exact hset2.below ((Below.refl _ _).drew) hset2.lt
  have hP1 := HPc.out.grown HP.out (by decide) (by decide) hg1
  have HP1 := Lib.hid hp1
  have HPc1 := Lib.hid hP1
  have Hg1 := Lib.hid hg1
  clear x0 x1 x2 x3 x4 x5 x6 x7 x8 x9 xa xb xc xd xe xf xg xh hfz hw1 hP1 hg1
  obtain ⟨x0, x1, x2, x3, x4, x5, x6, x7, x8, x9, xa, xb, xc, xd, xe, xf, xg, xh⟩ := blk18 hp1
  have hfz := fun i => hp1.frozen i
  clear hp1
  go_wp2_with fail
  by_cases hin : j < nv
  · obtain ⟨g, hA, hcell⟩ := HPc1.out.cell (j := j) (by omega)
    have hown := HPc1.out.here (j := j) (by omega)
    have hji : (j : Int) < (nv : Int) := by omega
    have hmo : decide ((j : Int) < (nv : Int) - 1) = moreP H j := by
      rw [← HPc1.out.more j, hnv, Bool.eq_iff_iff, decide_eq_true_eq, decide_eq_true_eq]
      omega
    obtain ⟨mo, hmo2⟩ : ∃ mo, moreP H j = mo := ⟨_, rfl⟩
    rw [hmo2] at hmo
    have Hmo := Lib.hid hmo2
    obtain ⟨vj, hvj⟩ : ∃ vj, (V[j]'(by omega)).val = vj := ⟨_, rfl⟩
    rw [hvj] at hcell hown
    obtain ⟨Aj, cj, hvs⟩ := hown.shape
    subst hvs hA
    obtain ⟨nj, hnj⟩ : ∃ z, (pcP H j).length = z := ⟨_, rfl⟩
    rw [hnj] at hcell hown
    have HO := Lib.hid hown
    clear hown hvj hmo2 hin hnj
    go_quiet (fail)
    go_wp2_with fail
    obtain ⟨w2, hw2⟩ : ∃ w2, w1.drewN nq = w2 := ⟨_, rfl⟩
    rw [hw2]
    have hb2 : Below w1.heap.size w1 w2 := by rw [← hw2]; exact below_drewN (Below.refl _ _) _
    have hp2 := HP1.out.below hb2 HP1.out.lt
    have HP2 := Lib.hid hp2
    have HO2 := Lib.hid (HO.out.below hb2)
    have Hg2 := Lib.hid (gr_trans Hg1.out (gr_below hb2))
    have hc2 : w2.cell? ⟨g, j, none⟩ = some (.slice Aj nj cj) := by rw [← hw2]; simpa using hcell
    clear x0 x1 x2 x3 x4 x5 x6 x7 x8 x9 xa xb xc xd xe xf xg xh hfz hw2 hb2 hcell
    obtain ⟨x0, x1, x2, x3, x4, x5, x6, x7, x8, x9, xa, xb, xc, xd, xe, xf, xg, xh⟩ := blk18 hp2
    have hfz := fun i => hp2.frozen i
    clear hp2
    go_region
    obtain ⟨w3, hw3⟩ : ∃ w3, (w2.setCell ⟨p, 15, none⟩ (.slice Aj nj cj)).drew = w3 := ⟨_, rfl⟩
    rw [hw3]
    have hset := HP2.out.set_ 15 (.slice Aj nj cj)
    have hp3 : Blk w3 p 68 (rxA a b n ag ld dn l1 l2 l3 l4 hl false false ld n (.slice Aj nj cj) (.slice (some ⟨g, 0, none⟩) nv c) j) := by
      rw [← hw3]
      have hset2 : Blk (w2.setCell ⟨p, 15, none⟩ (.slice Aj nj cj)) p 68 (rxA a b n ag ld dn l1 l2 l3 l4 hl false false ld n (.slice Aj nj cj) (.slice (some ⟨g, 0, none⟩) nv c) j) := by simpa [rxA] using hset
      exact hset2.below ((Below.refl _ _).drew) hset2.lt
    have hg3 : w2.grownBy w3 (some p) := by rw [← hw3]; exact gr_trans (grown_set w2 p 15 _) (gr_below ((Below.refl _ _).drew))
    have HP3 := Lib.hid hp3
    have HO3 := Lib.hid (HO2.out.kept hg3 (.inr (own_ne14 HO2.out HP2.out (by decide))))
    have Hg3 := Lib.hid (gr_trans Hg2.out hg3)
    clear x0 x1 x2 x3 x4 x5 x6 x7 x8 x9 xa xb xc xd xe xf xg xh hfz hw3 hg3 hset hc2
    obtain ⟨x0, x1, x2, x3, x4, x5, x6, x7, x8, x9, xa, xb, xc, xd, xe, xf, xg, xh⟩ := blk18 hp3
    have hfz := fun i => hp3.frozen i
    clear hp3
    go_wp2_with fail
    go_region
    go_wp2
    refine bodyPost_end (results_none rfl _ _ _) rfl ?_
    refine ⟨rfl, ⟨.slice Aj nj cj, ?_, ?_⟩, ?_⟩
    · rw [Hmo.out]
      have hset := HP3.out.set_ 12 (.bool mo)
      have hset2 : Blk (w3.setCell ⟨p, 12, none⟩ (.bool mo)) p 68 (rxA a b n ag ld dn l1 l2 l3 l4 hl false mo ld n (.slice Aj nj cj) (.slice (some ⟨g, 0, none⟩) nv c) j) := by simpa [rxA] using hset
      exact hset2.below ((Below.refl _ _).drew) hset2.lt
    · exact (HO3.out.kept (gr_trans (grown_set w3 p 12 (.bool mo)) (gr_below ((Below.refl _ _).drew))) (.inr (own_ne14 HO3.out HP3.out (by decide))))
    · exact gr_trans Hg3.out (gr_trans (grown_set w3 p 12 (.bool mo)) (gr_below ((Below.refl _ _).drew)))
  · have hji : ¬ (j : Int) < (nv : Int) := by omega
    have Hpast := Lib.hid (HPc1.out.past (j := j) (by omega))
    go_quiet (fail)
    go_wp2
    refine bodyPost_end (results_none rfl _ _ _) rfl ?_
    rw [Hpast.out.1, Hpast.out.2]
    exact ⟨rfl, ⟨.slice none 0 0, HP1.out.below (below_drewN (Below.refl _ _) _) HP1.out.lt, OwnR.nil _ _⟩, gr_trans Hg1.out (gr_below (below_drewN (Below.refl _ _) _))⟩

end Go.Proofs.Ytfpjkeddcagfcaa

/-
  Lists of heads that are alike: what the document asks of them.
-/
namespace Go.Proofs.Ytfpjkeddcagfcaa
open Go.RowKit Go.Sort

set_option maxHeartbeats 2000000 in
set_option maxRecDepth 100000 in
theorem Same13s (A A' : Option Addr) (c c' : Nat) (l : List Hd) (w : World) (B B' : Nat) (h : RowsAt 7 Hd.cells w B A l) (h' : RowsAt 7 Hd.cells w B' A' l) (hB : B ≤ w.heap.size) (hB' : B' ≤ w.heap.size) (hlen : l.length ≤ 2 ^ 20) (n n' : Nat) (hn : n = l.length) (hn' : n' = l.length) :
    Calls Try.prog 32 #[.slice A n c, .slice A' n' c'] w fun r w' => r = .returned (.bool true) ∧ Below w.heap.size w w' := by
  subst hn hn'
  have H := Lib.hid (h.more hB)
  have H' := Lib.hid (h'.more hB')
  clear h h' hB hB'
  go_enter Try.func32, Try.ntmps32
  go_wp2
  go_loopw [5] (fun i wr => ∃ k : Nat, i = .int .i64 k ∧ k ≤ l.length ∧ Below w.heap.size w wr) (fun i _ => l.length - (intOf i).toNat)
  case atStart => exact ⟨0, rfl, Nat.zero_le _, Below.refl _ _⟩
  case round =>
    obtain ⟨k, rfl, hk, hb⟩ := hrel
    have Hb := Lib.hid hb
    by_cases hlt : k < l.length
    · obtain ⟨g, o, rfl, -, z0, z1, z2, z3, z4, z5, z6⟩ := row_hd7 (H.out.below hb) k hlt
      obtain ⟨g', o', rfl, -, y0, y1, y2, y3, y4, y5, y6⟩ := row_hd7 (H'.out.below hb) k hlt
      have hkl : (k : Int) < (l.length : Int) := by omega
      clear hb
      generalize l[k] = x at *
      obtain ⟨x1, x2, x3, x4, x5, x6, x7⟩ := x
      simp only at z0 z1 z2 z3 z4 z5 z6 y0 y1 y2 y3 y4 y5 y6
      go_wp2
      go_quiet (fail)
      go_wp2
      go_roundw
      case measure => simp [intOf]; omega
      case rel => exact ⟨k + 1, by go_num, hlt, below_drewN Hb.out _⟩
    · have hkk : k = l.length := by omega
      subst hkk
      clear hb
      go_wp2
      go_ret
      exact ⟨rfl, Hb.out⟩

end Go.Proofs.Ytfpjkeddcagfcaa

/-
  Layer 14: a new exchange of the document's; which pieces are told the same.
-/
namespace Go.Proofs.Ytfpjkeddcagfcaa
open Go.RowKit Go.Sort

theorem alike_keys (i m s i' m' s' : Bool) (q q' : Int) {t : Bool} (ht : decide (i = i' ∧ m = m' ∧ s = s' ∧ q = q') = t) :
    ((i == i') = false ∧ t = false) ∨ ((i == i') = true ∧ (m == m') = false ∧ t = false) ∨ ((i == i') = true ∧ (m == m') = true ∧ (s == s') = false ∧ t = false) ∨ ((i == i') = true ∧ (m == m') = true ∧ (s == s') = true ∧ (q == q') = t) := by
  subst ht
  cases i <;> cases i' <;> cases m <;> cases m' <;> cases s <;> cases s' <;> by_cases h : q = q' <;> simp [h]
set_option maxHeartbeats 4000000 in
set_option maxRecDepth 100000 in
theorem alike_any (i m s : Bool) (q : Int) (hv : Value) (i' m' s' : Bool) (q' : Int) (hv' : Value) {t : Bool} (ht : decide (i = i' ∧ m = m' ∧ s = s' ∧ q = q') = t) (h1 : ∃ A n c, hv = .slice A n c) (h2 : ∃ A n c, hv' = .slice A n c) (w : World) :
    Calls Try.prog 29 #[.agg #[.bool i, .bool m, .bool s, .int .i64 q, hv], .agg #[.bool i', .bool m', .bool s', .int .i64 q', hv']] w fun r w' => r = .returned (.bool t) ∧ Below w.heap.size w w' := by
  obtain ⟨A, n, c, rfl⟩ := h1
  obtain ⟨A', n', c', rfl⟩ := h2
  have hk := alike_keys i m s i' m' s' q q' ht
  have hb := fun o o' => (below_new w o).alloc (show w.heap.size ≤ (w.alloc o).heap.size by simp) o'
  have HB := Lib.hid hb
  clear ht hb
  rcases hk with ⟨e1, rfl⟩ | ⟨e1, e2, rfl⟩ | ⟨e1, e2, e3, rfl⟩ | ⟨e1, e2, e3, e4⟩
  all_goals
    go_enter Try.func29, Try.ntmps29
    go_wp2
    go_ret
    exact ⟨rfl, HB.out _ _⟩
theorem top14 (w : World) : Calls Try.prog 23 #[] w fun r w' => r = .returned (.int .i64 4294967296) ∧ w' = w := by
  go_enter Try.func23, Try.ntmps23
  go_wp2
  go_ret
  exact ⟨rfl, rfl⟩
set_option maxHeartbeats 1000000 in
theorem rxNew (a b n : Int) (w : World) : Calls Try.prog 9 #[.int .i64 a, .int .i64 b, .int .i64 n] w fun r w' => r = .returned (.pointer (some ⟨w.heap.size, 0, none⟩)) ∧ Blk w' w.heap.size 68 (rxA a b (n % 4294967296) false false false false false false 0 (.slice none 0 0) true true true (n % 4294967296) (.slice none 0 0) (.slice none 0 0) 0) ∧ Below w.heap.size w w' := by
  have HB := Lib.hid (fun o => below_new w o)
  have HK := Lib.hid (Blk.new w 68 (rxA a b (n % 4294967296) false false false false false false 0 (.slice none 0 0) true true true (n % 4294967296) (.slice none 0 0) (.slice none 0 0) 0))
  have ht : (0 ≤ n.tmod 4294967296 ∧ n.tmod 4294967296 = n % 4294967296) ∨ (n.tmod 4294967296 < 0 ∧ -4294967296 < n.tmod 4294967296 ∧ n.tmod 4294967296 + 4294967296 = n % 4294967296) := by
    by_cases h : 0 ≤ n
    · rw [Int.tmod_eq_emod_of_nonneg h]; omega
    · have e : n.tmod 4294967296 = -((-n) % 4294967296) := by
        rw [← Int.neg_neg n, Int.neg_tmod, Int.neg_neg, Int.tmod_eq_emod_of_nonneg (by omega)]
      rw [e]; omega
  obtain ⟨z, hz⟩ : ∃ z, n.tmod 4294967296 = z := ⟨_, rfl⟩
  rw [hz] at ht
  rcases ht with ⟨h0, e⟩ | ⟨h0, h1, e⟩
  · subst e
    have h2 : ¬ n % 4294967296 < 0 := by omega
    go_enter Try.func9, Try.ntmps9
    go_wp2_with (go_at_call 23; (with_reducible refine Calls.mono (top14 _) ?_); rintro r wx ⟨rfl, rfl⟩)
    go_ret
    exact ⟨rfl, HK.out, HB.out _⟩
  · go_enter Try.func9, Try.ntmps9
    go_wp2_with (go_at_call 23; (with_reducible refine Calls.mono (top14 _) ?_); rintro r wx ⟨rfl, rfl⟩)
    go_ret
    exact ⟨rfl, HK.out, HB.out _⟩

end Go.Proofs.Ytfpjkeddcagfcaa

/-
  Layer 14: the document's exchange, not agreed on, lets a piece be: way by way.
-/
namespace Go.Proofs.Ytfpjkeddcagfcaa
open Go.RowKit Go.Sort

theorem top14_q (W : World) (n : Nat) : Calls Try.prog 23 #[] (W.drewN n) fun r w' => r = .returned (.int .i64 4294967296) ∧ ∃ q, w' = W.drewN q :=
  (top14 _).mono (by rintro r w' ⟨rfl, rfl⟩; exact ⟨rfl, n, rfl⟩)
set_option maxHeartbeats 4000000 in
set_option maxRecDepth 100000 in
theorem rxNo_far0 (p : Nat) (a b n : Int) (l1 l2 l3 : Bool) (l4 : Int) (hlv : Value) (si sm ss : Bool) (sq : Int) (hv pv : Value) (j : Nat) (ag ld dn : Bool) (i m s : Bool) (q : Int) (hA : Option Addr) (nh hc : Nat) (A : Option Addr) (nn cap : Nat) (hq0 : q < 0) (_hnhi : (nh : Int) ≤ 1099511627776) (w : World) (hp : Blk w p 68 (rxA a b n ag ld dn l1 l2 l3 l4 hlv si sm ss sq hv pv j)) :
    Calls Try.prog 12 #[.pointer (some ⟨p, 0, none⟩), .agg #[.bool i, .bool m, .bool s, .int .i64 q, .slice hA nh hc], .slice A nn cap] w fun r w' => r = .returned (.int .i64 0) ∧ Below w.heap.size w w' := by
  obtain ⟨w1, hw1⟩ : ∃ w1, w.alloc (.cells #[.bool i, .bool m, .bool s, .int .i64 q, .slice hA nh hc] 33) = w1 := ⟨_, rfl⟩
  obtain ⟨g1, hg1⟩ : ∃ g1, w.heap.size = g1 := ⟨_, rfl⟩
  have hd := Blk.new w 33 #[.bool i, .bool m, .bool s, .int .i64 q, .slice hA nh hc]
  have hb1 := below_new w (.cells #[.bool i, .bool m, .bool s, .int .i64 q, .slice hA nh hc] 33)
  rw [hw1, hg1] at hd
  rw [hw1] at hb1
  have hp1 := hp.below hb1 hp.lt
  have Hb1 := Lib.hid hb1
  have HP1 := Lib.hid hp1
  have HD := Lib.hid hd
  obtain ⟨x0, x1, x2, x3, x4, x5, x6, x7, x8, x9, xa, xb, xc, xd, xe, xf, xg, xh⟩ := blk18 hp1
  obtain ⟨d0, d1, d2, d3, d4⟩ := blk5 hd
  clear hp hb1 hd hp1 x4 x5 x6 x7 x8 x9 xa xb xc xd xe xf xg xh
  go_enter Try.func12, Try.ntmps12
  go_wp2_with fail
  go_quiet (fail)
  go_wp2
  go_ret
  exact ⟨rfl, by first | exact below_drewN Hb1.out _ | exact Hbc.out | exact below_drewN Hbc.out _ | exact below_drewN (below_drewN (below_drewN Hb1.out _) _) _⟩
set_option maxHeartbeats 4000000 in
set_option maxRecDepth 100000 in
theorem rxNo_far1 (p : Nat) (a b n : Int) (l1 l2 l3 : Bool) (l4 : Int) (hlv : Value) (si sm ss : Bool) (sq : Int) (hv pv : Value) (j : Nat) (ag ld dn : Bool) (i m s : Bool) (q : Int) (hA : Option Addr) (nh hc : Nat) (A : Option Addr) (nn cap : Nat) (hq0 : ¬ q < 0) (hq2 : 4294967296 ≤ q) (_hnhi : (nh : Int) ≤ 1099511627776) (w : World) (hp : Blk w p 68 (rxA a b n ag ld dn l1 l2 l3 l4 hlv si sm ss sq hv pv j)) :
    Calls Try.prog 12 #[.pointer (some ⟨p, 0, none⟩), .agg #[.bool i, .bool m, .bool s, .int .i64 q, .slice hA nh hc], .slice A nn cap] w fun r w' => r = .returned (.int .i64 0) ∧ Below w.heap.size w w' := by
  obtain ⟨w1, hw1⟩ : ∃ w1, w.alloc (.cells #[.bool i, .bool m, .bool s, .int .i64 q, .slice hA nh hc] 33) = w1 := ⟨_, rfl⟩
  obtain ⟨g1, hg1⟩ : ∃ g1, w.heap.size = g1 := ⟨_, rfl⟩
  have hd := Blk.new w 33 #[.bool i, .bool m, .bool s, .int .i64 q, .slice hA nh hc]
  have hb1 := below_new w (.cells #[.bool i, .bool m, .bool s, .int .i64 q, .slice hA nh hc] 33)
  rw [hw1, hg1] at hd
  rw [hw1] at hb1
  have hp1 := hp.below hb1 hp.lt
  have Hb1 := Lib.hid hb1
  have HP1 := Lib.hid hp1
  have HD := Lib.hid hd
  obtain ⟨x0, x1, x2, x3, x4, x5, x6, x7, x8, x9, xa, xb, xc, xd, xe, xf, xg, xh⟩ := blk18 hp1
  obtain ⟨d0, d1, d2, d3, d4⟩ := blk5 hd
  clear hp hb1 hd hp1 x4 x5 x6 x7 x8 x9 xa xb xc xd xe xf xg xh
  go_enter Try.func12, Try.ntmps12
  go_wp2_with fail
  go_quiet (exact top14_q _ _)
  go_wp2
  go_ret
  exact ⟨rfl, by first | exact below_drewN Hb1.out _ | exact Hbc.out | exact below_drewN Hbc.out _ | exact below_drewN (below_drewN (below_drewN Hb1.out _) _) _⟩
set_option maxHeartbeats 4000000 in
set_option maxRecDepth 100000 in
theorem rxNo_f1 (p : Nat) (a b n : Int) (l1 l2 l3 : Bool) (l4 : Int) (hlv : Value) (si sm ss : Bool) (sq : Int) (hv pv : Value) (s : Bool) (q : Int) (hA : Option Addr) (nh hc : Nat) (A : Option Addr) (nn cap : Nat) (hq0 : ¬ q < 0) (hq2 : ¬ 4294967296 ≤ q) (_hnhi : (nh : Int) ≤ 1099511627776) (w : World) (hp : Blk w p 68 (rxA a b n false false false l1 l2 l3 l4 hlv si sm ss sq hv pv 0)) :
    Calls Try.prog 12 #[.pointer (some ⟨p, 0, none⟩), .agg #[.bool true, .bool false, .bool s, .int .i64 q, .slice hA nh hc], .slice A nn cap] w fun r w' => r = .returned (.int .i64 0) ∧ Below w.heap.size w w' := by
  obtain ⟨w1, hw1⟩ : ∃ w1, w.alloc (.cells #[.bool true, .bool false, .bool s, .int .i64 q, .slice hA nh hc] 33) = w1 := ⟨_, rfl⟩
  obtain ⟨g1, hg1⟩ : ∃ g1, w.heap.size = g1 := ⟨_, rfl⟩
  have hd := Blk.new w 33 #[.bool true, .bool false, .bool s, .int .i64 q, .slice hA nh hc]
  have hb1 := below_new w (.cells #[.bool true, .bool false, .bool s, .int .i64 q, .slice hA nh hc] 33)
  rw [hw1, hg1] at hd
  rw [hw1] at hb1
  have hp1 := hp.below hb1 hp.lt
  have Hb1 := Lib.hid hb1
  have HP1 := Lib.hid hp1
  have HD := Lib.hid hd
  obtain ⟨x0, x1, x2, x3, x4, x5, x6, x7, x8, x9, xa, xb, xc, xd, xe, xf, xg, xh⟩ := blk18 hp1
  obtain ⟨d0, d1, d2, d3, d4⟩ := blk5 hd
  clear hp hb1 hd hp1 x4 x5 x6 x7 x8 x9 xa xb xc xd xe xf xg xh
  go_enter Try.func12, Try.ntmps12
  go_wp2_with fail
  go_quiet (exact top14_q _ _)
  go_wp2_with fail
  go_quiet (fail)
  go_wp2_with fail
  go_quiet (fail)
  go_wp2
  go_ret
  exact ⟨rfl, by first | exact below_drewN Hb1.out _ | exact Hbc.out | exact below_drewN Hbc.out _ | exact below_drewN (below_drewN (below_drewN Hb1.out _) _) _⟩
set_option maxHeartbeats 4000000 in
set_option maxRecDepth 100000 in
theorem rxNo_f2 (p : Nat) (a b n : Int) (l1 l2 l3 : Bool) (l4 : Int) (hlv : Value) (si sm ss : Bool) (sq : Int) (hv pv : Value) (q : Int) (hA : Option Addr) (nh hc : Nat) (A : Option Addr) (nn cap : Nat) (hq0 : ¬ q < 0) (hq2 : ¬ 4294967296 ≤ q) (_hnhi : (nh : Int) ≤ 1099511627776) (w : World) (hp : Blk w p 68 (rxA a b n false false false l1 l2 l3 l4 hlv si sm ss sq hv pv 0)) :
    Calls Try.prog 12 #[.pointer (some ⟨p, 0, none⟩), .agg #[.bool true, .bool true, .bool false, .int .i64 q, .slice hA nh hc], .slice A nn cap] w fun r w' => r = .returned (.int .i64 0) ∧ Below w.heap.size w w' := by
  obtain ⟨w1, hw1⟩ : ∃ w1, w.alloc (.cells #[.bool true, .bool true, .bool false, .int .i64 q, .slice hA nh hc] 33) = w1 := ⟨_, rfl⟩
  obtain ⟨g1, hg1⟩ : ∃ g1, w.heap.size = g1 := ⟨_, rfl⟩
  have hd := Blk.new w 33 #[.bool true, .bool true, .bool false, .int .i64 q, .slice hA nh hc]
  have hb1 := below_new w (.cells #[.bool true, .bool true, .bool false, .int .i64 q, .slice hA nh hc] 33)
  rw [hw1, hg1] at hd
  rw [hw1] at hb1
  have hp1 := hp.below hb1 hp.lt
  have Hb1 := Lib.hid hb1
  have HP1 := Lib.hid hp1
  have HD := Lib.hid hd
  obtain ⟨x0, x1, x2, x3, x4, x5, x6, x7, x8, x9, xa, xb, xc, xd, xe, xf, xg, xh⟩ := blk18 hp1
  obtain ⟨d0, d1, d2, d3, d4⟩ := blk5 hd
  clear hp hb1 hd hp1 x4 x5 x6 x7 x8 x9 xa xb xc xd xe xf xg xh
  go_enter Try.func12, Try.ntmps12
  go_wp2_with fail
  go_quiet (exact top14_q _ _)
  go_wp2_with fail
  go_quiet (fail)
  go_wp2_with fail
  go_quiet (fail)
  go_wp2
  go_ret
  exact ⟨rfl, by first | exact below_drewN Hb1.out _ | exact Hbc.out | exact below_drewN Hbc.out _ | exact below_drewN (below_drewN (below_drewN Hb1.out _) _) _⟩
set_option maxHeartbeats 4000000 in
set_option maxRecDepth 100000 in
theorem rxNo_f3 (p : Nat) (a b n : Int) (l1 l2 l3 : Bool) (l4 : Int) (hlv : Value) (si sm ss : Bool) (sq : Int) (hv pv : Value) (q : Int) (hA : Option Addr) (nh hc : Nat) (A : Option Addr) (nn cap : Nat) (hq0 : ¬ q < 0) (hq2 : ¬ 4294967296 ≤ q) (e4 : ((nh : Int) == 0) = false) (_hnhi : (nh : Int) ≤ 1099511627776) (w : World) (hp : Blk w p 68 (rxA a b n false false false l1 l2 l3 l4 hlv si sm ss sq hv pv 0)) :
    Calls Try.prog 12 #[.pointer (some ⟨p, 0, none⟩), .agg #[.bool true, .bool true, .bool true, .int .i64 q, .slice hA nh hc], .slice A nn cap] w fun r w' => r = .returned (.int .i64 0) ∧ Below w.heap.size w w' := by
  obtain ⟨w1, hw1⟩ : ∃ w1, w.alloc (.cells #[.bool true, .bool true, .bool true, .int .i64 q, .slice hA nh hc] 33) = w1 := ⟨_, rfl⟩
  obtain ⟨g1, hg1⟩ : ∃ g1, w.heap.size = g1 := ⟨_, rfl⟩
  have hd := Blk.new w 33 #[.bool true, .bool true, .bool true, .int .i64 q, .slice hA nh hc]
  have hb1 := below_new w (.cells #[.bool true, .bool true, .bool true, .int .i64 q, .slice hA nh hc] 33)
  rw [hw1, hg1] at hd
  rw [hw1] at hb1
  have hp1 := hp.below hb1 hp.lt
  have Hb1 := Lib.hid hb1
  have HP1 := Lib.hid hp1
  have HD := Lib.hid hd
  obtain ⟨x0, x1, x2, x3, x4, x5, x6, x7, x8, x9, xa, xb, xc, xd, xe, xf, xg, xh⟩ := blk18 hp1
  obtain ⟨d0, d1, d2, d3, d4⟩ := blk5 hd
  clear hp hb1 hd hp1 x4 x5 x6 x7 x8 x9 xa xb xc xd xe xf xg xh
  go_enter Try.func12, Try.ntmps12
  go_wp2_with fail
  go_quiet (exact top14_q _ _)
  go_wp2_with fail
  go_quiet (fail)
  go_wp2_with fail
  go_quiet (fail)
  go_wp2
  go_ret
  exact ⟨rfl, by first | exact below_drewN Hb1.out _ | exact Hbc.out | exact below_drewN Hbc.out _ | exact below_drewN (below_drewN (below_drewN Hb1.out _) _) _⟩
set_option maxHeartbeats 4000000 in
set_option maxRecDepth 100000 in
theorem rxNo_f4 (p : Nat) (a b n : Int) (l1 l2 l3 : Bool) (l4 : Int) (hlv : Value) (si sm ss : Bool) (sq : Int) (hv pv : Value) (q : Int) (hA : Option Addr) (nh hc : Nat) (A : Option Addr) (nn cap : Nat) (hq0 : ¬ q < 0) (hq2 : ¬ 4294967296 ≤ q) (e4 : ((nh : Int) == 0) = true) (h5 : ¬ a < b) (_hnhi : (nh : Int) ≤ 1099511627776) (w : World) (hp : Blk w p 68 (rxA a b n false false false l1 l2 l3 l4 hlv si sm ss sq hv pv 0)) :
    Calls Try.prog 12 #[.pointer (some ⟨p, 0, none⟩), .agg #[.bool true, .bool true, .bool true, .int .i64 q, .slice hA nh hc], .slice A nn cap] w fun r w' => r = .returned (.int .i64 0) ∧ Below w.heap.size w w' := by
  obtain ⟨w1, hw1⟩ : ∃ w1, w.alloc (.cells #[.bool true, .bool true, .bool true, .int .i64 q, .slice hA nh hc] 33) = w1 := ⟨_, rfl⟩
  obtain ⟨g1, hg1⟩ : ∃ g1, w.heap.size = g1 := ⟨_, rfl⟩
  have hd := Blk.new w 33 #[.bool true, .bool true, .bool true, .int .i64 q, .slice hA nh hc]
  have hb1 := below_new w (.cells #[.bool true, .bool true, .bool true, .int .i64 q, .slice hA nh hc] 33)
  rw [hw1, hg1] at hd
  rw [hw1] at hb1
  have hp1 := hp.below hb1 hp.lt
  have Hb1 := Lib.hid hb1
  have HP1 := Lib.hid hp1
  have HD := Lib.hid hd
  obtain ⟨x0, x1, x2, x3, x4, x5, x6, x7, x8, x9, xa, xb, xc, xd, xe, xf, xg, xh⟩ := blk18 hp1
  obtain ⟨d0, d1, d2, d3, d4⟩ := blk5 hd
  clear hp hb1 hd hp1 x4 x5 x6 x7 x8 x9 xa xb xc xd xe xf xg xh
  go_enter Try.func12, Try.ntmps12
  go_wp2_with fail
  go_quiet (exact top14_q _ _)
  go_wp2_with fail
  go_cut [7] from 10 (fun v wx => v = .bool false ∧ Below w1.heap.size w1 wx)
  case first =>
    go_quiet (fail)
    go_wp2_with fail
    go_meet
    exact ⟨by simp [h5], below_drewN (below_drewN (Below.refl _ _) _) _⟩
  obtain ⟨rfl, hbc⟩ := hcut
  have hpc := HP1.out.below hbc HP1.out.lt
  have hdc := HD.out.below hbc HD.out.lt
  clear x0 x1 x2 x3 d0 d1 d2 d3 d4
  obtain ⟨x0, x1, x2, x3, x4, x5, x6, x7, x8, x9, xa, xb, xc, xd, xe, xf, xg, xh⟩ := blk18 hpc
  obtain ⟨d0, d1, d2, d3, d4⟩ := blk5 hdc
  have Hbc := Lib.hid (below_trans Hb1.out Hb1.out.size hbc)
  clear hpc hdc hbc
  go_wp2_with fail
  go_quiet (fail)
  go_wp2
  go_ret
  exact ⟨rfl, by first | exact below_drewN Hb1.out _ | exact Hbc.out | exact below_drewN Hbc.out _ | exact below_drewN (below_drewN (below_drewN Hb1.out _) _) _⟩
set_option maxHeartbeats 4000000 in
set_option maxRecDepth 100000 in
theorem rxNo_s1 (p : Nat) (a b n : Int) (l1 l2 l3 : Bool) (l4 : Int) (hlv : Value) (si sm ss : Bool) (sq : Int) (hv pv : Value) (m : Bool) (q : Int) (hA : Option Addr) (nh hc : Nat) (A : Option Addr) (nn cap : Nat) (hq0 : ¬ q < 0) (hq2 : ¬ 4294967296 ≤ q) (_hnhi : (nh : Int) ≤ 1099511627776) (w : World) (hp : Blk w p 68 (rxA a b n false false false l1 l2 l3 l4 hlv si sm ss sq hv pv 0)) :
    Calls Try.prog 12 #[.pointer (some ⟨p, 0, none⟩), .agg #[.bool false, .bool m, .bool true, .int .i64 q, .slice hA nh hc], .slice A nn cap] w fun r w' => r = .returned (.int .i64 0) ∧ Below w.heap.size w w' := by
  obtain ⟨w1, hw1⟩ : ∃ w1, w.alloc (.cells #[.bool false, .bool m, .bool true, .int .i64 q, .slice hA nh hc] 33) = w1 := ⟨_, rfl⟩
  obtain ⟨g1, hg1⟩ : ∃ g1, w.heap.size = g1 := ⟨_, rfl⟩
  have hd := Blk.new w 33 #[.bool false, .bool m, .bool true, .int .i64 q, .slice hA nh hc]
  have hb1 := below_new w (.cells #[.bool false, .bool m, .bool true, .int .i64 q, .slice hA nh hc] 33)
  rw [hw1, hg1] at hd
  rw [hw1] at hb1
  have hp1 := hp.below hb1 hp.lt
  have Hb1 := Lib.hid hb1
  have HP1 := Lib.hid hp1
  have HD := Lib.hid hd
  obtain ⟨x0, x1, x2, x3, x4, x5, x6, x7, x8, x9, xa, xb, xc, xd, xe, xf, xg, xh⟩ := blk18 hp1
  obtain ⟨d0, d1, d2, d3, d4⟩ := blk5 hd
  clear hp hb1 hd hp1 x4 x5 x6 x7 x8 x9 xa xb xc xd xe xf xg xh
  go_enter Try.func12, Try.ntmps12
  go_wp2_with fail
  go_quiet (exact top14_q _ _)
  go_wp2_with fail
  go_quiet (fail)
  go_wp2_with fail
  go_quiet (fail)
  go_wp2
  go_ret
  exact ⟨rfl, by first | exact below_drewN Hb1.out _ | exact Hbc.out | exact below_drewN Hbc.out _ | exact below_drewN (below_drewN (below_drewN Hb1.out _) _) _⟩
set_option maxHeartbeats 4000000 in
set_option maxRecDepth 100000 in
theorem rxNo_s2 (p : Nat) (a b n : Int) (l1 l2 l3 : Bool) (l4 : Int) (hlv : Value) (si sm ss : Bool) (sq : Int) (hv pv : Value) (m : Bool) (q : Int) (hA : Option Addr) (nh hc : Nat) (A : Option Addr) (nn cap : Nat) (hq0 : ¬ q < 0) (hq2 : ¬ 4294967296 ≤ q) (e4 : (q == n) = false) (_hnhi : (nh : Int) ≤ 1099511627776) (w : World) (hp : Blk w p 68 (rxA a b n false false false l1 l2 l3 l4 hlv si sm ss sq hv pv 0)) :
    Calls Try.prog 12 #[.pointer (some ⟨p, 0, none⟩), .agg #[.bool false, .bool m, .bool false, .int .i64 q, .slice hA nh hc], .slice A nn cap] w fun r w' => r = .returned (.int .i64 0) ∧ Below w.heap.size w w' := by
  obtain ⟨w1, hw1⟩ : ∃ w1, w.alloc (.cells #[.bool false, .bool m, .bool false, .int .i64 q, .slice hA nh hc] 33) = w1 := ⟨_, rfl⟩
  obtain ⟨g1, hg1⟩ : ∃ g1, w.heap.size = g1 := ⟨_, rfl⟩
  have hd := Blk.new w 33 #[.bool false, .bool m, .bool false, .int .i64 q, .slice hA nh hc]
  have hb1 := below_new w (.cells #[.bool false, .bool m, .bool false, .int .i64 q, .slice hA nh hc] 33)
  rw [hw1, hg1] at hd
  rw [hw1] at hb1
  have hp1 := hp.below hb1 hp.lt
  have Hb1 := Lib.hid hb1
  have HP1 := Lib.hid hp1
  have HD := Lib.hid hd
  obtain ⟨x0, x1, x2, x3, x4, x5, x6, x7, x8, x9, xa, xb, xc, xd, xe, xf, xg, xh⟩ := blk18 hp1
  obtain ⟨d0, d1, d2, d3, d4⟩ := blk5 hd
  clear hp hb1 hd hp1 x4 x5 x6 x7 x8 x9 xa xb xc xd xe xf xg xh
  go_enter Try.func12, Try.ntmps12
  go_wp2_with fail
  go_quiet (exact top14_q _ _)
  go_wp2_with fail
  go_quiet (fail)
  go_wp2_with fail
  go_quiet (fail)
  go_wp2
  go_ret
  exact ⟨rfl, by first | exact below_drewN Hb1.out _ | exact Hbc.out | exact below_drewN Hbc.out _ | exact below_drewN (below_drewN (below_drewN Hb1.out _) _) _⟩
set_option maxHeartbeats 4000000 in
set_option maxRecDepth 100000 in
theorem rxNo_s3 (p : Nat) (a b n : Int) (l1 l2 l3 : Bool) (l4 : Int) (hlv : Value) (si sm ss : Bool) (sq : Int) (hv pv : Value) (m : Bool) (q : Int) (hA : Option Addr) (nh hc : Nat) (A : Option Addr) (nn cap : Nat) (hq0 : ¬ q < 0) (hq2 : ¬ 4294967296 ≤ q) (e4 : (q == n) = true) (h5 : ¬ b < a) (_hnhi : (nh : Int) ≤ 1099511627776) (w : World) (hp : Blk w p 68 (rxA a b n false false false l1 l2 l3 l4 hlv si sm ss sq hv pv 0)) :
    Calls Try.prog 12 #[.pointer (some ⟨p, 0, none⟩), .agg #[.bool false, .bool m, .bool false, .int .i64 q, .slice hA nh hc], .slice A nn cap] w fun r w' => r = .returned (.int .i64 0) ∧ Below w.heap.size w w' := by
  obtain ⟨w1, hw1⟩ : ∃ w1, w.alloc (.cells #[.bool false, .bool m, .bool false, .int .i64 q, .slice hA nh hc] 33) = w1 := ⟨_, rfl⟩
  obtain ⟨g1, hg1⟩ : ∃ g1, w.heap.size = g1 := ⟨_, rfl⟩
  have hd := Blk.new w 33 #[.bool false, .bool m, .bool false, .int .i64 q, .slice hA nh hc]
  have hb1 := below_new w (.cells #[.bool false, .bool m, .bool false, .int .i64 q, .slice hA nh hc] 33)
  rw [hw1, hg1] at hd
  rw [hw1] at hb1
  have hp1 := hp.below hb1 hp.lt
  have Hb1 := Lib.hid hb1
  have HP1 := Lib.hid hp1
  have HD := Lib.hid hd
  obtain ⟨x0, x1, x2, x3, x4, x5, x6, x7, x8, x9, xa, xb, xc, xd, xe, xf, xg, xh⟩ := blk18 hp1
  obtain ⟨d0, d1, d2, d3, d4⟩ := blk5 hd
  clear hp hb1 hd hp1 x4 x5 x6 x7 x8 x9 xa xb xc xd xe xf xg xh
  go_enter Try.func12, Try.ntmps12
  go_wp2_with fail
  go_quiet (exact top14_q _ _)
  go_wp2_with fail
  go_quiet (fail)
  go_wp2_with fail
  go_cut [8] from 10 (fun v wx => v = .bool false ∧ Below w1.heap.size w1 wx)
  case first =>
    go_quiet (fail)
    go_wp2_with fail
    go_meet
    exact ⟨by simp [h5], below_drewN (below_drewN (below_drewN (Below.refl _ _) _) _) _⟩
  obtain ⟨rfl, hbc⟩ := hcut
  have hpc := HP1.out.below hbc HP1.out.lt
  have hdc := HD.out.below hbc HD.out.lt
  clear x0 x1 x2 x3 d0 d1 d2 d3 d4
  obtain ⟨x0, x1, x2, x3, x4, x5, x6, x7, x8, x9, xa, xb, xc, xd, xe, xf, xg, xh⟩ := blk18 hpc
  obtain ⟨d0, d1, d2, d3, d4⟩ := blk5 hdc
  have Hbc := Lib.hid (below_trans Hb1.out Hb1.out.size hbc)
  clear hpc hdc hbc
  go_wp2
  go_ret
  exact ⟨rfl, by first | exact below_drewN Hb1.out _ | exact Hbc.out | exact below_drewN Hbc.out _ | exact below_drewN (below_drewN (below_drewN Hb1.out _) _) _⟩

end Go.Proofs.Ytfpjkeddcagfcaa
