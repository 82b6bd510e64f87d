/-
  Layer 7: a description is not put: it is not right, or there is no room.
-/
import Derived.Test.YtmjjmkdjjfmhhaaDbPut
namespace Go.Proofs.Ytmjjmkdjjfmhhaa
open Go.RowKit

theorem below_drew2 {B : Nat} {a w : World} (h : Below B a w) : Below B a w.drew := below_drewN h 1
set_option maxHeartbeats 4000000 in
set_option maxRecDepth 100000 in
theorem DbPut_bad (p : Nat) (y1 y2 y3 y4 y5 y6 y7 : Int) (ka : Option Addr) (kc : Nat) (ls : List Lnk) (ma : Option Addr) (mc : Nat) (ms : List Int) (w : World) (hl : RowsAt 4 Lnk.cells w w.heap.size ka ls) (hm : RowsAt 1 icell w w.heap.size ma ms) (hlm : ls.length ≤ maxLen) (hmm : ms.length ≤ maxLen) (nl nm : Nat) (hnl : nl = ls.length) (hnm : nm = ms.length)
    (ht : rightB ⟨⟨y1, y2, y3, y4, y5, y6, y7⟩, ka, kc, ls, ma, mc, ms⟩ = false) :
    Calls Try.prog 34 #[.pointer (some ⟨p, 0, none⟩), .agg #[.int .i64 y1, .int .i64 y2, .int .i64 y3, .int .i64 y4, .int .i64 y5, .int .i64 y6, .int .i64 y7, .slice ka nl kc, .slice ma nm mc]] w fun r w' => r = .returned (.int .i64 1) ∧ Below w.heap.size w w' := by
  obtain ⟨w1, hW1⟩ : ∃ w1, w.alloc (.cells #[.int .i64 y1, .int .i64 y2, .int .i64 y3, .int .i64 y4, .int .i64 y5, .int .i64 y6, .int .i64 y7, .slice ka nl kc, .slice ma nm mc] 27) = w1 := ⟨_, rfl⟩
  have hk1 := Blk.new w 27 #[.int .i64 y1, .int .i64 y2, .int .i64 y3, .int .i64 y4, .int .i64 y5, .int .i64 y6, .int .i64 y7, .slice ka nl kc, .slice ma nm mc]
  have hb1 := below_new w (.cells #[.int .i64 y1, .int .i64 y2, .int .i64 y3, .int .i64 y4, .int .i64 y5, .int .i64 y6, .int .i64 y7, .slice ka nl kc, .slice ma nm mc] 27)
  rw [hW1] at hk1 hb1
  have HR := Lib.hid (lsaRight_any y1 y2 y3 y4 y5 y6 y7 ka kc ls ma mc ms w1 w1.heap.size (rows_keep hl hb1) (rows_keep hm hb1) (Nat.le_refl _) hlm hmm nl nm hnl hnm ht)
  have Hb1 := Lib.hid hb1
  obtain ⟨z0, z1, z2, z3, z4, z5, z6, z7, z8, zf⟩ := blk9 hk1
  clear hk1 hb1 hl hm hlm hmm hnl hnm ht
  go_enter Try.func34, Try.ntmps34
  go_wp2_with (go_at_call 63; (with_reducible refine Calls.mono HR.out ?_); rintro r w2 ⟨rfl, hb2⟩; have Hb2 := Lib.hid (below_trans Hb1.out Hb1.out.size hb2); clear hb2)
  go_ret
  exact ⟨rfl, Hb2.out⟩
set_option maxHeartbeats 8000000 in
set_option maxRecDepth 100000 in
theorem DbPut_full (p b : Nat) (room : Int) (M : List Lsa) (y1 y2 y3 y4 y5 y6 y7 : Int) (ka : Option Addr) (kc : Nat) (ls : List Lnk) (ma : Option Addr) (mc : Nat) (ms : List Int) (w : World) (h : DbAt w p b room M) (hl : RowsAt 4 Lnk.cells w w.heap.size ka ls) (hm : RowsAt 1 icell w w.heap.size ma ms) (hlm : ls.length ≤ 1000) (hmm : ms.length ≤ 1000) (nl nm : Nat) (hnl : nl = ls.length) (hnm : nm = ms.length)
    (ht : rightB ⟨⟨y1, y2, y3, y4, y5, y6, y7⟩, ka, kc, ls, ma, mc, ms⟩ = true) (his : (getX ⟨y2, y3, y4⟩ M).isSome = false) (hroom : (M.length : Int) = room) :
    Calls Try.prog 34 #[.pointer (some ⟨p, 0, none⟩), .agg #[.int .i64 y1, .int .i64 y2, .int .i64 y3, .int .i64 y4, .int .i64 y5, .int .i64 y6, .int .i64 y7, .slice ka nl kc, .slice ma nm mc]] w fun r w' => r = .returned (.int .i64 7) ∧ Below w.heap.size w w' := by
  obtain ⟨w1, hW1⟩ : ∃ w1, w.alloc (.cells #[.int .i64 y1, .int .i64 y2, .int .i64 y3, .int .i64 y4, .int .i64 y5, .int .i64 y6, .int .i64 y7, .slice ka nl kc, .slice ma nm mc] 27) = w1 := ⟨_, rfl⟩
  have hk1 := Blk.new w 27 #[.int .i64 y1, .int .i64 y2, .int .i64 y3, .int .i64 y4, .int .i64 y5, .int .i64 y6, .int .i64 y7, .slice ka nl kc, .slice ma nm mc]
  have hb1 := below_new w (.cells #[.int .i64 y1, .int .i64 y2, .int .i64 y3, .int .i64 y4, .int .i64 y5, .int .i64 y6, .int .i64 y7, .slice ka nl kc, .slice ma nm mc] 27)
  rw [hW1] at hk1 hb1
  have HR := Lib.hid (lsaRight_any y1 y2 y3 y4 y5 y6 y7 ka kc ls ma mc ms w1 w1.heap.size (rows_keep hl hb1) (rows_keep hm hb1) (Nat.le_refl _) (by unfold maxLen; omega) (by unfold maxLen; omega) nl nm hnl hnm ht)
  have Hlen : Hid (ls.length ≤ 1000 ∧ ms.length ≤ 1000 ∧ nl = ls.length ∧ nm = ms.length) := Lib.hid ⟨hlm, hmm, hnl, hnm⟩
  have H := Lib.hid h
  have Hb1 := Lib.hid hb1
  have Hk1 := Lib.hid hk1
  have His := Lib.hid his
  have Hroom := Lib.hid hroom
  obtain ⟨z0, z1, z2, z3, z4, z5, z6, z7, z8, zf⟩ := blk9 hk1
  clear hk1 hb1 hl hm hlm hmm hnl hnm ht his hroom h
  go_enter Try.func34, Try.ntmps34
  go_upto_region 6 with (first
    | (go_at_call 63; (with_reducible refine Calls.mono HR.out ?_); rintro r w2 ⟨rfl, hb2⟩; obtain ⟨x0, x1, x2, x3, x4, x5, x6, x7, x8, xf⟩ := blk9 (Hk1.out.below hb2 Hk1.out.lt); have Hb2 := Lib.hid hb2; clear hb2)
    | (go_at_call 20; (with_reducible refine Calls.mono (keyOf_any _ _ _ _ _ _ _ _) ?_); rintro r w3 ⟨rfl, hb3⟩; have Hb3 := Lib.hid hb3; clear hb3))
  obtain ⟨w5, hw5⟩ : ∃ w5, w3.alloc (.cells #[.int .i64 y2, .int .i64 y3, .int .i64 y4] 39) = w5 := ⟨_, rfl⟩
  have hb5 := below_new w3 (.cells #[.int .i64 y2, .int .i64 y3, .int .i64 y4] 39)
  have hk5 : Blk w5 w3.heap.size 39 #[.int .i64 y2, .int .i64 y3, .int .i64 y4] := by rw [← hw5]; exact Blk.new w3 _ _
  rw [hw5] at hb5 ⊢
  have hbw5 := below_trans Hb1.out Hb1.out.size (below_trans Hb2.out Hb2.out.size (below_trans Hb3.out Hb3.out.size hb5))
  have hx5 : Blk w5 w.heap.size 27 #[.int .i64 y1, .int .i64 y2, .int .i64 y3, .int .i64 y4, .int .i64 y5, .int .i64 y6, .int .i64 y7, .slice ka nl kc, .slice ma nm mc] := ((Hk1.out.below Hb2.out Hk1.out.lt).below Hb3.out (Hk1.out.below Hb2.out Hk1.out.lt).lt).below hb5 ((Hk1.out.below Hb2.out Hk1.out.lt).below Hb3.out (Hk1.out.below Hb2.out Hk1.out.lt).lt).lt
  have hd5 := H.out.keep hbw5
  have Hbw5 := Lib.hid hbw5
  have Hd5 := Lib.hid hd5
  have Hk5 := Lib.hid hk5
  have Hx5 := Lib.hid hx5
  clear hw5 hb5 hbw5 hk5 hx5 hd5 z0 z1 z2 z3 z4 z5 z6 z7 z8 zf x0 x1 x2 x3 x4 x5 x6 x7 x8 xf
  have hl := Hd5.out.map.drew.look_run keyK3 Try.underlying110 (zeroXv _) ⟨y2, y3, y4⟩ true
  have hl2 := fun o => (Hd5.out.map.alloc o).drew.look_run keyK3 Try.underlying110 (zeroXv _) ⟨y2, y3, y4⟩ true
  simp only [if_true, K3.enc] at hl hl2
  obtain ⟨e1, e2⟩ := getL_valX ⟨y2, y3, y4⟩ M
  rw [His.out] at e2
  obtain ⟨u, hu⟩ : ∃ u, (getX ⟨y2, y3, y4⟩ M).getD zeroX = u := ⟨_, rfl⟩
  rw [hu] at e1
  rw [e1, e2] at hl hl2
  obtain ⟨⟨u1, u2, u3, u4, u5, u6, u7⟩, xa, xc, xs, va, vc, vs⟩ := u
  unfold Lsa.val Lsa.cells at hl hl2
  simp only at hl hl2
  obtain ⟨xl, hxl⟩ : ∃ xl, xs.length = xl := ⟨_, rfl⟩
  obtain ⟨vl, hvl⟩ : ∃ vl, vs.length = vl := ⟨_, rfl⟩
  rw [hxl, hvl] at hl hl2
  clear e1 e2 hu hxl hvl
  obtain ⟨z0, z1, z2, z3⟩ : _ ∧ _ ∧ _ ∧ _ := ⟨Hk5.out.cell 0, Hk5.out.cell 1, Hk5.out.cell 2, Hd5.out.ptr.cell 1⟩
  obtain ⟨c0, c1, c2, c3⟩ : _ ∧ _ ∧ _ ∧ _ := ⟨fun o => (Hk5.out.alloc o).cell 0, fun o => (Hk5.out.alloc o).cell 1, fun o => (Hk5.out.alloc o).cell 2, fun o => (Hd5.out.ptr.alloc o).cell 1⟩
  simp only [List.getElem?_toArray, List.getElem?_cons_zero, List.getElem?_cons_succ] at c0 c1 c2 c3 z0 z1 z2 z3
  go_region
  obtain ⟨w6, hw6⟩ : ∃ w6, (w5.alloc (.cells #[.int .i64 u1, .int .i64 u2, .int .i64 u3, .int .i64 u4, .int .i64 u5, .int .i64 u6, .int .i64 u7, .slice xa xl xc, .slice va vl vc] 27)).drew = w6 := ⟨_, rfl⟩
  have hb6 : Below w5.heap.size w5 w6 := by rw [← hw6]; exact (below_new w5 _).drew
  rw [hw6]
  have hd6 := Hd5.out.keep hb6
  have hk6 := Hk5.out.below hb6 Hk5.out.lt
  have hx6 := Hx5.out.below hb6 Hx5.out.lt
  have Hb6 := Lib.hid (below_trans Hbw5.out Hbw5.out.size hb6)
  have Hd6 := Lib.hid hd6
  have Hk6 := Lib.hid hk6
  have Hx6 := Lib.hid hx6
  clear hw6 hb6 hd6 hk6 hx6 z0 z1 z2 z3 c0 c1 c2 c3 hl hl2
  obtain ⟨z0, z1⟩ : _ ∧ _ := ⟨Hd6.out.ptr.cell 0, Hd6.out.ptr.cell 1⟩
  simp only [List.getElem?_toArray, List.getElem?_cons_zero, List.getElem?_cons_succ] at z0 z1
  have hML : (dbL M).length = M.length := by simp [dbL]
  have hln := fun t => Hd6.out.map.drew.len_run (P := Try.prog) Try.underlying110 t
  rw [hML] at hln
  clear hML
  go_upto_region 7 with fail
  have hr := Hroom.out
  subst hr
  go_region
  go_wp2
  go_ret
  exact ⟨rfl, below_drew2 Hb6.out⟩

end Go.Proofs.Ytmjjmkdjjfmhhaa
