/-
  Layer 18: what a database makes of a description: the program's way.
-/
import Derived.Test.YtmjjmkdjjfmhhaaDbPut
import Derived.Test.YtmjjmkdjjfmhhaaFlOrd
namespace Go.Proofs.Ytmjjmkdjjfmhhaa
open Go.RowKit

set_option maxHeartbeats 8000000 in
set_option maxRecDepth 100000 in
theorem Take_none (p b : Nat) (room : Int) (M : List Lsa) (y1 y2 y3 y4 y5 y6 y7 : Int) (ka : Option Addr) (kc : Nat) (ls : List Lnk) (ma : Option Addr) (mc : Nat) (ms : List Int) (w : World) (h : DbAt w p b room M) (hl : RowsAt 4 Lnk.cells w w.heap.size ka ls) (hm : RowsAt 1 icell w w.heap.size ma ms) (hlm : ls.length ≤ 1000) (hmm : ms.length ≤ 1000) (nl nm : Nat) (hnl : nl = ls.length) (hnm : nm = ms.length)
    (ht : rightB ⟨⟨y1, y2, y3, y4, y5, y6, y7⟩, ka, kc, ls, ma, mc, ms⟩ = true) (hg : getX ⟨y2, y3, y4⟩ M = none) (hroom : (M.length : Int) ≠ room) :
    Calls Try.prog 17 #[.pointer (some ⟨p, 0, none⟩), .agg #[.int .i64 y1, .int .i64 y2, .int .i64 y3, .int .i64 y4, .int .i64 y5, .int .i64 y6, .int .i64 y7, .slice ka nl kc, .slice ma nm mc], .bool true] w fun r w' => r = .returned (.int .i64 2) ∧ PutTo w.heap.size w' p b room ⟨y1, y2, y3, y4, y5, y6, y7⟩ ls ms M ∧ w.grownBy w' (some b) := by
  obtain ⟨w1, hW1⟩ : ∃ w1, w.alloc (.cells #[.int .i64 y1, .int .i64 y2, .int .i64 y3, .int .i64 y4, .int .i64 y5, .int .i64 y6, .int .i64 y7, .slice ka nl kc, .slice ma nm mc] 27) = w1 := ⟨_, rfl⟩
  have hk1 := Blk.new w 27 #[.int .i64 y1, .int .i64 y2, .int .i64 y3, .int .i64 y4, .int .i64 y5, .int .i64 y6, .int .i64 y7, .slice ka nl kc, .slice ma nm mc]
  have hb1 := below_new w (.cells #[.int .i64 y1, .int .i64 y2, .int .i64 y3, .int .i64 y4, .int .i64 y5, .int .i64 y6, .int .i64 y7, .slice ka nl kc, .slice ma nm mc] 27)
  rw [hW1] at hk1 hb1
  have HR := Lib.hid (lsaRight_any y1 y2 y3 y4 y5 y6 y7 ka kc ls ma mc ms w1 w1.heap.size (rows_keep hl hb1) (rows_keep hm hb1) (Nat.le_refl _) (by unfold maxLen; omega) (by unfold maxLen; omega) nl nm hnl hnm ht)
  have HP := Lib.hid (fun W (hW : Below w.heap.size w W) => DbPut_ok p b room M y1 y2 y3 y4 y5 y6 y7 ka kc ls ma mc ms W (h.keep hW) (rows_keep hl hW) (rows_keep hm hW) hlm hmm nl nm hnl hnm ht (is := false) (by rw [hg]; rfl) (.inr hroom))
  have HG := Lib.hid (fun W (hW : Below w.heap.size w W) => DbGet p b room M y2 y3 y4 W (h.keep hW) (h1 := 0) (h2 := 0) (h3 := 0) (h4 := 0) (h5 := 0) (h6 := 0) (h7 := 0) (ka := none) (kc := 0) (ls := []) (ma := none) (mc := 0) (ms := []) (is := false) (by rw [hg]; rfl) (by rw [hg]; rfl) 0 0 rfl rfl)
  have Hb1 := Lib.hid hb1
  have Hk1 := Lib.hid hk1
  obtain ⟨z0, z1, z2, z3, z4, z5, z6, z7, z8, zf⟩ := blk9 hk1
  clear hk1 hb1 hl hm hlm hmm hnl hnm ht hg hroom h
  by_cases hy60 : y1 = 60
  all_goals
    (try subst hy60)
    go_enter Try.func17, Try.ntmps17
    go_wp2_with (first
      | (go_at_call 63; (with_reducible refine Calls.mono HR.out ?_); rintro r w2 ⟨rfl, hb2⟩; obtain ⟨x0, x1, x2, x3, x4, x5, x6, x7, x8, xf⟩ := blk9 (Hk1.out.below hb2 Hk1.out.lt); have Hb2 := Lib.hid (below_trans Hb1.out Hb1.out.size hb2); have Hk2 := Lib.hid (Hk1.out.below hb2 Hk1.out.lt); clear hb2)
      | (go_at_call 20; (with_reducible refine Calls.mono (keyOf_any _ _ _ _ _ _ _ _) ?_); rintro r w3 ⟨rfl, hb3⟩; have Hb3 := Lib.hid (below_trans Hb2.out Hb2.out.size hb3); have Hk3 := Lib.hid (Hk2.out.below hb3 Hk2.out.lt); clear hb3)
      | (go_at_call 21; (with_reducible refine Calls.mono (HG.out _ Hb3.out) ?_); rintro r w4 ⟨Aa, ca, Ab, cb, rfl, -, -, hb4⟩; obtain ⟨w5, hw5⟩ : ∃ w5, w4.alloc (.cells #[.int .i64 0, .int .i64 0, .int .i64 0, .int .i64 0, .int .i64 0, .int .i64 0, .int .i64 0, .slice Aa 0 ca, .slice Ab 0 cb] 27) = w5 := ⟨_, rfl⟩;
          have hb5 := below_new w4 (.cells #[.int .i64 0, .int .i64 0, .int .i64 0, .int .i64 0, .int .i64 0, .int .i64 0, .int .i64 0, .slice Aa 0 ca, .slice Ab 0 cb] 27); rw [hw5] at hb5;
          have Hb5 := Lib.hid (below_trans (below_trans Hb3.out Hb3.out.size hb4) (below_trans Hb3.out Hb3.out.size hb4).size hb5);
          obtain ⟨q0, q1, q2, q3, q4, q5, q6, q7, q8, qf⟩ := blk9 ((Hk3.out.below hb4 Hk3.out.lt).below hb5 (Hk3.out.below hb4 Hk3.out.lt).lt); obtain ⟨c0, c1, c2, c3, c4, c5, c6, c7, c8, cf⟩ := blk9 (Hk3.out.below hb4 Hk3.out.lt); clear hb4 hb5)
      | (go_at_call 34; (with_reducible refine Calls.mono (HP.out _ Hb5.out) ?_); rintro r w6 ⟨rfl, hd6, hg6⟩; have Hd6 := Lib.hid hd6; have Hg6 := Lib.hid (grown_trans (grown_below (World.grownBy.refl w (some b)) Hb5.out) hg6); clear hd6 hg6)
      | fail)
    go_ret
    exact ⟨rfl, Hd6.out.mono Hb5.out.size, Hg6.out⟩

set_option maxHeartbeats 8000000 in
set_option maxRecDepth 100000 in
theorem Take_same (p b : Nat) (room : Int) (M : List Lsa) (y1 y2 y3 y4 y5 y6 y7 : Int) (ka : Option Addr) (kc : Nat) (ls : List Lnk) (ma : Option Addr) (mc : Nat) (ms : List Int) (w : World) (h : DbAt w p b room M) (hl : RowsAt 4 Lnk.cells w w.heap.size ka ls) (hm : RowsAt 1 icell w w.heap.size ma ms) (hlm : ls.length ≤ 1000) (hmm : ms.length ≤ 1000) (nl nm : Nat) (hnl : nl = ls.length) (hnm : nm = ms.length)
    (ht : rightB ⟨⟨y1, y2, y3, y4, y5, y6, y7⟩, ka, kc, ls, ma, mc, ms⟩ = true) {h1 h2 h3 h4 h5 h6 h7 : Int} {xa : Option Addr} {xc : Nat} {xs : List Lnk} {va : Option Addr} {vc : Nat} {vs : List Int} (hg : getX ⟨y2, y3, y4⟩ M = some ⟨⟨h1, h2, h3, h4, h5, h6, h7⟩, xa, xc, xs, va, vc, vs⟩) (hy0 : 0 ≤ y1) (hy1 : y1 ≤ 60) (hh0 : 0 ≤ h1) (hh1 : h1 ≤ 60) {m : Int} (hmn : newerI (sealedH ⟨y1, y2, y3, y4, y5, y6, y7⟩ ls ms) ⟨h1, h2, h3, h4, h5, h6, h7⟩ = m) (hcond : m = 0) (busy : Bool) :
    Calls Try.prog 17 #[.pointer (some ⟨p, 0, none⟩), .agg #[.int .i64 y1, .int .i64 y2, .int .i64 y3, .int .i64 y4, .int .i64 y5, .int .i64 y6, .int .i64 y7, .slice ka nl kc, .slice ma nm mc], .bool busy] w fun r w' => r = .returned (.int .i64 3) ∧ Below w.heap.size w w' := by
  obtain ⟨w1, hW1⟩ : ∃ w1, w.alloc (.cells #[.int .i64 y1, .int .i64 y2, .int .i64 y3, .int .i64 y4, .int .i64 y5, .int .i64 y6, .int .i64 y7, .slice ka nl kc, .slice ma nm mc] 27) = w1 := ⟨_, rfl⟩
  have hk1 := Blk.new w 27 #[.int .i64 y1, .int .i64 y2, .int .i64 y3, .int .i64 y4, .int .i64 y5, .int .i64 y6, .int .i64 y7, .slice ka nl kc, .slice ma nm mc]
  have hb1 := below_new w (.cells #[.int .i64 y1, .int .i64 y2, .int .i64 y3, .int .i64 y4, .int .i64 y5, .int .i64 y6, .int .i64 y7, .slice ka nl kc, .slice ma nm mc] 27)
  rw [hW1] at hk1 hb1
  have HR := Lib.hid (lsaRight_any y1 y2 y3 y4 y5 y6 y7 ka kc ls ma mc ms w1 w1.heap.size (rows_keep hl hb1) (rows_keep hm hb1) (Nat.le_refl _) (by unfold maxLen; omega) (by unfold maxLen; omega) nl nm hnl hnm ht)
  have HS := Lib.hid (fun W (hW : Below w.heap.size w W) => seal_any y1 y2 y3 y4 y5 y6 y7 ka kc ls ma mc ms W w.heap.size (hl.below hW) (hm.below hW) hW.size hlm hmm nl nm hnl hnm ht (s1 := (sealedH ⟨y1, y2, y3, y4, y5, y6, y7⟩ ls ms).sum) (s2 := (sealedH ⟨y1, y2, y3, y4, y5, y6, y7⟩ ls ms).long) rfl)
  obtain ⟨xl, hxl⟩ : ∃ xl, xl = xs.length := ⟨_, rfl⟩
  obtain ⟨vl, hvl⟩ : ∃ vl, vl = vs.length := ⟨_, rfl⟩
  have HG := Lib.hid (fun W (hW : Below w.heap.size w W) => DbGet p b room M y2 y3 y4 W (h.keep hW) (h1 := h1) (h2 := h2) (h3 := h3) (h4 := h4) (h5 := h5) (h6 := h6) (h7 := h7) (ka := xa) (kc := xc) (ls := xs) (ma := va) (mc := vc) (ms := vs) (is := true) (by rw [hg]; rfl) (by rw [hg]; rfl) xl vl hxl hvl)
  have Hmn := Lib.hid hmn
  have Hag := Lib.hid (show _ ∧ _ ∧ _ ∧ _ from ⟨hy0, hy1, hh0, hh1⟩)
  have Hb1 := Lib.hid hb1
  have Hk1 := Lib.hid hk1
  obtain ⟨z0, z1, z2, z3, z4, z5, z6, z7, z8, zf⟩ := blk9 hk1
  clear hk1 hb1 hl hm hlm hmm hnl hnm ht hg h hmn hy0 hy1 hh0 hh1 hxl hvl
  go_enter Try.func17, Try.ntmps17
  go_upto_region 7 with (first
    | (go_at_call 63; (with_reducible refine Calls.mono HR.out ?_); rintro r w2 ⟨rfl, hb2⟩; obtain ⟨x0, x1, x2, x3, x4, x5, x6, x7, x8, xf⟩ := blk9 (Hk1.out.below hb2 Hk1.out.lt); have Hb2 := Lib.hid (below_trans Hb1.out Hb1.out.size hb2); have Hk2 := Lib.hid (Hk1.out.below hb2 Hk1.out.lt); clear hb2)
    | (go_at_call 20; (with_reducible refine Calls.mono (keyOf_any _ _ _ _ _ _ _ _) ?_); rintro r w3 ⟨rfl, hb3⟩; have Hb3 := Lib.hid (below_trans Hb2.out Hb2.out.size hb3); have Hk3 := Lib.hid (Hk2.out.below hb3 Hk2.out.lt); clear hb3)
    | (go_at_call 21; (with_reducible refine Calls.mono (HG.out _ Hb3.out) ?_); rintro r w4 ⟨Aa, ca, Ab, cb, rfl, -, -, hb4⟩; obtain ⟨w5, hw5⟩ : ∃ w5, w4.alloc (.cells #[.int .i64 h1, .int .i64 h2, .int .i64 h3, .int .i64 h4, .int .i64 h5, .int .i64 h6, .int .i64 h7, .slice Aa xl ca, .slice Ab vl cb] 27) = w5 := ⟨_, rfl⟩;
        have hb5 := below_new w4 (.cells #[.int .i64 h1, .int .i64 h2, .int .i64 h3, .int .i64 h4, .int .i64 h5, .int .i64 h6, .int .i64 h7, .slice Aa xl ca, .slice Ab vl cb] 27); rw [hw5] at hb5;
        have hq5 : Blk w5 w4.heap.size 27 #[.int .i64 h1, .int .i64 h2, .int .i64 h3, .int .i64 h4, .int .i64 h5, .int .i64 h6, .int .i64 h7, .slice Aa xl ca, .slice Ab vl cb] := hw5 ▸ Blk.new w4 _ _;
        have Hb5 := Lib.hid (below_trans (below_trans Hb3.out Hb3.out.size hb4) (below_trans Hb3.out Hb3.out.size hb4).size hb5);
        have hk5 := (Hk3.out.below hb4 Hk3.out.lt).below hb5 (Hk3.out.below hb4 Hk3.out.lt).lt;
        have FB := Lib.hid (fun W (hW : Below w5.heap.size w5 W) => (show _ ∧ _ from ⟨blk9 (hk5.below hW hk5.lt), blk9 (hq5.below hW hq5.lt)⟩));
        obtain ⟨q0, q1, q2, q3, q4, q5, q6, q7, q8, qf⟩ := blk9 hk5; obtain ⟨c0, c1, c2, c3, c4, c5, c6, c7, c8, cf⟩ := blk9 (Hk3.out.below hb4 Hk3.out.lt); clear hb4 hb5 hq5 hk5))
  refine wp_region_F (F := fun W => Below w5.heap.size w5 W) (n := 6) (m := 7) (s := #[false, false, false, false, false, false, false]) (by kernel_rfl) (by kernel_rfl) (by kernel_rfl) ?_
  intro wd hwd
  have hF : Below w5.heap.size w5 wd := by rw [hwd.out]; exact (Below.refl _ _).drew
  clear hwd
  refine F_take (i := 0) (d := some 38) (by kernel_rfl) (by kernel_rfl) (by decide) (s' := #[true, false, false, false, false, false, false]) (by kernel_rfl) rfl rfl (by kernel_rfl) (by kernel_rfl) (by kernel_rfl) (fun _ _ _ h => h) (Or.inl ⟨by kernel_rfl, fun W hW => by obtain ⟨⟨x0, x1, x2, x3, x4, x5, x6, x7, x8, -⟩, k0, k1, k2, k3, k4, k5, k6, -⟩ := FB.out W hW; go_simp; try with_reducible rfl⟩) hF ?_
  go_frame
  refine F_take (i := 3) (d := some 41) (by kernel_rfl) (by kernel_rfl) (by decide) (s' := #[true, false, false, true, false, false, false]) (by kernel_rfl) rfl rfl (by kernel_rfl) (by kernel_rfl) (by kernel_rfl) (fun _ _ _ h => h) (Or.inl ⟨by kernel_rfl, fun W hW => by obtain ⟨⟨x0, x1, x2, x3, x4, x5, x6, x7, x8, -⟩, k0, k1, k2, k3, k4, k5, k6, -⟩ := FB.out W hW; go_simp; try with_reducible rfl⟩) hF ?_
  go_frame
  refine F_take (i := 4) (d := some 42) (by kernel_rfl) (by kernel_rfl) (by decide) (s' := #[true, false, false, true, true, false, false]) (by kernel_rfl) rfl rfl (by kernel_rfl) (by kernel_rfl) (by kernel_rfl) (fun _ _ _ h => h) (Or.inl ⟨by kernel_rfl, fun W hW => by obtain ⟨⟨x0, x1, x2, x3, x4, x5, x6, x7, x8, -⟩, k0, k1, k2, k3, k4, k5, k6, -⟩ := FB.out W hW; go_simp; try with_reducible rfl⟩) hF ?_
  go_frame
  refine F_one (i := 1) (s' := #[true, true, false, true, true, false, false]) (by kernel_rfl) (by kernel_rfl) (wpOp_enterL (i := 1) (d := some 39) (f := 64) (args := #[.agg #[.int .i64 y1, .int .i64 y2, .int .i64 y3, .int .i64 y4, .int .i64 y5, .int .i64 y6, .int .i64 y7, .slice ka nl kc, .slice ma nm mc]]) rfl rfl (by kernel_rfl) (by go_simp) ((HS.out wd (below_trans Hb5.out Hb5.out.size hF)).mono ?_))
  rintro r v1w ⟨va', vb', rfl, oa, ob, hb8⟩
  obtain ⟨Ba, da, rfl⟩ := oa.shape
  obtain ⟨Bb, db, rfl⟩ := ob.shape
  clear oa ob
  have hF := below_trans hF hF.size hb8
  obtain ⟨n1, hn1⟩ : ∃ n, (sealedH ⟨y1, y2, y3, y4, y5, y6, y7⟩ ls ms).sum = n := ⟨_, rfl⟩
  obtain ⟨n2, hn2⟩ : ∃ n, (sealedH ⟨y1, y2, y3, y4, y5, y6, y7⟩ ls ms).long = n := ⟨_, rfl⟩
  have hmn' : newerI ⟨y1, y2, y3, y4, y5, n1, n2⟩ ⟨h1, h2, h3, h4, h5, h6, h7⟩ = m := by rw [← Hmn.out, ← hn1, ← hn2]; rfl
  refine ⟨_, rfl, fun _ => hF, ?_⟩
  rw [hn1, hn2]
  clear hn1 hn2 hb8
  go_frame
  have hfld : ∀ W, (Instr.field 27 (.agg #[.int .i64 y1, .int .i64 y2, .int .i64 y3, .int .i64 y4, .int .i64 y5, .int .i64 n1, .int .i64 n2, .slice Ba ls.length da, .slice Bb ms.length db]) 0).run Try.prog W = .ok (.agg #[.int .i64 y1, .int .i64 y2, .int .i64 y3, .int .i64 y4, .int .i64 y5, .int .i64 n1, .int .i64 n2]) W := fun W => by kernel_rfl
  refine F_take (i := 2) (d := some 40) (by kernel_rfl) (by kernel_rfl) (by decide) (s' := #[true, true, true, true, true, false, false]) (by kernel_rfl) rfl rfl (by kernel_rfl) (by kernel_rfl) (by kernel_rfl) (fun _ _ _ h => h) (Or.inl ⟨by kernel_rfl, fun W hW => by obtain ⟨⟨x0, x1, x2, x3, x4, x5, x6, x7, x8, -⟩, k0, k1, k2, k3, k4, k5, k6, -⟩ := FB.out W hW; go_simp; try with_reducible rfl⟩) hF ?_
  go_frame
  refine F_one (i := 5) (s' := #[true, true, true, true, true, true, false]) (by kernel_rfl) (by kernel_rfl) (wpOp_enterL (i := 5) (d := some 43) (f := 22) (args := #[.agg #[.int .i64 y1, .int .i64 y2, .int .i64 y3, .int .i64 y4, .int .i64 y5, .int .i64 n1, .int .i64 n2], .agg #[.int .i64 h1, .int .i64 h2, .int .i64 h3, .int .i64 h4, .int .i64 h5, .int .i64 h6, .int .i64 h7]]) rfl rfl (by kernel_rfl) (by go_simp) ((newer_any _ _ _ _ _ _ _ _ _ _ _ _ _ _ _ Hag.out.1 Hag.out.2.1 Hag.out.2.2.1 Hag.out.2.2.2 hmn').mono ?_))
  rintro r v5w ⟨rfl, hb9⟩
  have hF := below_trans hF hF.size hb9
  refine ⟨_, rfl, fun _ => hF, ?_⟩
  go_frame
  refine F_one (i := 6) (s' := #[true, true, true, true, true, true, true]) (by kernel_rfl) (by kernel_rfl) (wpOp_valueL (i := 6) (d := some 9) (w' := v5w) (v := .int .i64 m) rfl rfl (by kernel_rfl) (by go_simp) ⟨fun h => absurd h (by decide), ?_⟩)
  go_frame
  refine F_done (by kernel_rfl) ?_ _
  have Hb9 := Lib.hid (below_trans Hb5.out Hb5.out.size hF)
  obtain ⟨⟨s0, s1, s2, s3, s4, s5, s6, s7, s8, -⟩, -⟩ := FB.out _ hF
  clear hF hb9 hmn' q0 q1 q2 q3 q4 q5 q6 q7 q8 qf c0 c1 c2 c3 c4 c5 c6 c7 c8 cf
  subst hcond
  go_wp2
  go_ret
  exact ⟨rfl, Hb9.out⟩
set_option maxHeartbeats 8000000 in
set_option maxRecDepth 100000 in
theorem Take_old (p b : Nat) (room : Int) (M : List Lsa) (y1 y2 y3 y4 y5 y6 y7 : Int) (ka : Option Addr) (kc : Nat) (ls : List Lnk) (ma : Option Addr) (mc : Nat) (ms : List Int) (w : World) (h : DbAt w p b room M) (hl : RowsAt 4 Lnk.cells w w.heap.size ka ls) (hm : RowsAt 1 icell w w.heap.size ma ms) (hlm : ls.length ≤ 1000) (hmm : ms.length ≤ 1000) (nl nm : Nat) (hnl : nl = ls.length) (hnm : nm = ms.length)
    (ht : rightB ⟨⟨y1, y2, y3, y4, y5, y6, y7⟩, ka, kc, ls, ma, mc, ms⟩ = true) {h1 h2 h3 h4 h5 h6 h7 : Int} {xa : Option Addr} {xc : Nat} {xs : List Lnk} {va : Option Addr} {vc : Nat} {vs : List Int} (hg : getX ⟨y2, y3, y4⟩ M = some ⟨⟨h1, h2, h3, h4, h5, h6, h7⟩, xa, xc, xs, va, vc, vs⟩) (hy0 : 0 ≤ y1) (hy1 : y1 ≤ 60) (hh0 : 0 ≤ h1) (hh1 : h1 ≤ 60) {m : Int} (hmn : newerI (sealedH ⟨y1, y2, y3, y4, y5, y6, y7⟩ ls ms) ⟨h1, h2, h3, h4, h5, h6, h7⟩ = m) (hcond : m < 0) (busy : Bool) :
    Calls Try.prog 17 #[.pointer (some ⟨p, 0, none⟩), .agg #[.int .i64 y1, .int .i64 y2, .int .i64 y3, .int .i64 y4, .int .i64 y5, .int .i64 y6, .int .i64 y7, .slice ka nl kc, .slice ma nm mc], .bool busy] w fun r w' => r = .returned (.int .i64 4) ∧ Below w.heap.size w w' := by
  obtain ⟨w1, hW1⟩ : ∃ w1, w.alloc (.cells #[.int .i64 y1, .int .i64 y2, .int .i64 y3, .int .i64 y4, .int .i64 y5, .int .i64 y6, .int .i64 y7, .slice ka nl kc, .slice ma nm mc] 27) = w1 := ⟨_, rfl⟩
  have hk1 := Blk.new w 27 #[.int .i64 y1, .int .i64 y2, .int .i64 y3, .int .i64 y4, .int .i64 y5, .int .i64 y6, .int .i64 y7, .slice ka nl kc, .slice ma nm mc]
  have hb1 := below_new w (.cells #[.int .i64 y1, .int .i64 y2, .int .i64 y3, .int .i64 y4, .int .i64 y5, .int .i64 y6, .int .i64 y7, .slice ka nl kc, .slice ma nm mc] 27)
  rw [hW1] at hk1 hb1
  have HR := Lib.hid (lsaRight_any y1 y2 y3 y4 y5 y6 y7 ka kc ls ma mc ms w1 w1.heap.size (rows_keep hl hb1) (rows_keep hm hb1) (Nat.le_refl _) (by unfold maxLen; omega) (by unfold maxLen; omega) nl nm hnl hnm ht)
  have HS := Lib.hid (fun W (hW : Below w.heap.size w W) => seal_any y1 y2 y3 y4 y5 y6 y7 ka kc ls ma mc ms W w.heap.size (hl.below hW) (hm.below hW) hW.size hlm hmm nl nm hnl hnm ht (s1 := (sealedH ⟨y1, y2, y3, y4, y5, y6, y7⟩ ls ms).sum) (s2 := (sealedH ⟨y1, y2, y3, y4, y5, y6, y7⟩ ls ms).long) rfl)
  obtain ⟨xl, hxl⟩ : ∃ xl, xl = xs.length := ⟨_, rfl⟩
  obtain ⟨vl, hvl⟩ : ∃ vl, vl = vs.length := ⟨_, rfl⟩
  have HG := Lib.hid (fun W (hW : Below w.heap.size w W) => DbGet p b room M y2 y3 y4 W (h.keep hW) (h1 := h1) (h2 := h2) (h3 := h3) (h4 := h4) (h5 := h5) (h6 := h6) (h7 := h7) (ka := xa) (kc := xc) (ls := xs) (ma := va) (mc := vc) (ms := vs) (is := true) (by rw [hg]; rfl) (by rw [hg]; rfl) xl vl hxl hvl)
  have Hmn := Lib.hid hmn
  have Hag := Lib.hid (show _ ∧ _ ∧ _ ∧ _ from ⟨hy0, hy1, hh0, hh1⟩)
  have Hb1 := Lib.hid hb1
  have Hk1 := Lib.hid hk1
  obtain ⟨z0, z1, z2, z3, z4, z5, z6, z7, z8, zf⟩ := blk9 hk1
  clear hk1 hb1 hl hm hlm hmm hnl hnm ht hg h hmn hy0 hy1 hh0 hh1 hxl hvl
  go_enter Try.func17, Try.ntmps17
  go_upto_region 7 with (first
    | (go_at_call 63; (with_reducible refine Calls.mono HR.out ?_); rintro r w2 ⟨rfl, hb2⟩; obtain ⟨x0, x1, x2, x3, x4, x5, x6, x7, x8, xf⟩ := blk9 (Hk1.out.below hb2 Hk1.out.lt); have Hb2 := Lib.hid (below_trans Hb1.out Hb1.out.size hb2); have Hk2 := Lib.hid (Hk1.out.below hb2 Hk1.out.lt); clear hb2)
    | (go_at_call 20; (with_reducible refine Calls.mono (keyOf_any _ _ _ _ _ _ _ _) ?_); rintro r w3 ⟨rfl, hb3⟩; have Hb3 := Lib.hid (below_trans Hb2.out Hb2.out.size hb3); have Hk3 := Lib.hid (Hk2.out.below hb3 Hk2.out.lt); clear hb3)
    | (go_at_call 21; (with_reducible refine Calls.mono (HG.out _ Hb3.out) ?_); rintro r w4 ⟨Aa, ca, Ab, cb, rfl, -, -, hb4⟩; obtain ⟨w5, hw5⟩ : ∃ w5, w4.alloc (.cells #[.int .i64 h1, .int .i64 h2, .int .i64 h3, .int .i64 h4, .int .i64 h5, .int .i64 h6, .int .i64 h7, .slice Aa xl ca, .slice Ab vl cb] 27) = w5 := ⟨_, rfl⟩;
        have hb5 := below_new w4 (.cells #[.int .i64 h1, .int .i64 h2, .int .i64 h3, .int .i64 h4, .int .i64 h5, .int .i64 h6, .int .i64 h7, .slice Aa xl ca, .slice Ab vl cb] 27); rw [hw5] at hb5;
        have hq5 : Blk w5 w4.heap.size 27 #[.int .i64 h1, .int .i64 h2, .int .i64 h3, .int .i64 h4, .int .i64 h5, .int .i64 h6, .int .i64 h7, .slice Aa xl ca, .slice Ab vl cb] := hw5 ▸ Blk.new w4 _ _;
        have Hb5 := Lib.hid (below_trans (below_trans Hb3.out Hb3.out.size hb4) (below_trans Hb3.out Hb3.out.size hb4).size hb5);
        have hk5 := (Hk3.out.below hb4 Hk3.out.lt).below hb5 (Hk3.out.below hb4 Hk3.out.lt).lt;
        have FB := Lib.hid (fun W (hW : Below w5.heap.size w5 W) => (show _ ∧ _ from ⟨blk9 (hk5.below hW hk5.lt), blk9 (hq5.below hW hq5.lt)⟩));
        obtain ⟨q0, q1, q2, q3, q4, q5, q6, q7, q8, qf⟩ := blk9 hk5; obtain ⟨c0, c1, c2, c3, c4, c5, c6, c7, c8, cf⟩ := blk9 (Hk3.out.below hb4 Hk3.out.lt); clear hb4 hb5 hq5 hk5))
  refine wp_region_F (F := fun W => Below w5.heap.size w5 W) (n := 6) (m := 7) (s := #[false, false, false, false, false, false, false]) (by kernel_rfl) (by kernel_rfl) (by kernel_rfl) ?_
  intro wd hwd
  have hF : Below w5.heap.size w5 wd := by rw [hwd.out]; exact (Below.refl _ _).drew
  clear hwd
  refine F_take (i := 0) (d := some 38) (by kernel_rfl) (by kernel_rfl) (by decide) (s' := #[true, false, false, false, false, false, false]) (by kernel_rfl) rfl rfl (by kernel_rfl) (by kernel_rfl) (by kernel_rfl) (fun _ _ _ h => h) (Or.inl ⟨by kernel_rfl, fun W hW => by obtain ⟨⟨x0, x1, x2, x3, x4, x5, x6, x7, x8, -⟩, k0, k1, k2, k3, k4, k5, k6, -⟩ := FB.out W hW; go_simp; try with_reducible rfl⟩) hF ?_
  go_frame
  refine F_take (i := 3) (d := some 41) (by kernel_rfl) (by kernel_rfl) (by decide) (s' := #[true, false, false, true, false, false, false]) (by kernel_rfl) rfl rfl (by kernel_rfl) (by kernel_rfl) (by kernel_rfl) (fun _ _ _ h => h) (Or.inl ⟨by kernel_rfl, fun W hW => by obtain ⟨⟨x0, x1, x2, x3, x4, x5, x6, x7, x8, -⟩, k0, k1, k2, k3, k4, k5, k6, -⟩ := FB.out W hW; go_simp; try with_reducible rfl⟩) hF ?_
  go_frame
  refine F_take (i := 4) (d := some 42) (by kernel_rfl) (by kernel_rfl) (by decide) (s' := #[true, false, false, true, true, false, false]) (by kernel_rfl) rfl rfl (by kernel_rfl) (by kernel_rfl) (by kernel_rfl) (fun _ _ _ h => h) (Or.inl ⟨by kernel_rfl, fun W hW => by obtain ⟨⟨x0, x1, x2, x3, x4, x5, x6, x7, x8, -⟩, k0, k1, k2, k3, k4, k5, k6, -⟩ := FB.out W hW; go_simp; try with_reducible rfl⟩) hF ?_
  go_frame
  refine F_one (i := 1) (s' := #[true, true, false, true, true, false, false]) (by kernel_rfl) (by kernel_rfl) (wpOp_enterL (i := 1) (d := some 39) (f := 64) (args := #[.agg #[.int .i64 y1, .int .i64 y2, .int .i64 y3, .int .i64 y4, .int .i64 y5, .int .i64 y6, .int .i64 y7, .slice ka nl kc, .slice ma nm mc]]) rfl rfl (by kernel_rfl) (by go_simp) ((HS.out wd (below_trans Hb5.out Hb5.out.size hF)).mono ?_))
  rintro r v1w ⟨va', vb', rfl, oa, ob, hb8⟩
  obtain ⟨Ba, da, rfl⟩ := oa.shape
  obtain ⟨Bb, db, rfl⟩ := ob.shape
  clear oa ob
  have hF := below_trans hF hF.size hb8
  obtain ⟨n1, hn1⟩ : ∃ n, (sealedH ⟨y1, y2, y3, y4, y5, y6, y7⟩ ls ms).sum = n := ⟨_, rfl⟩
  obtain ⟨n2, hn2⟩ : ∃ n, (sealedH ⟨y1, y2, y3, y4, y5, y6, y7⟩ ls ms).long = n := ⟨_, rfl⟩
  have hmn' : newerI ⟨y1, y2, y3, y4, y5, n1, n2⟩ ⟨h1, h2, h3, h4, h5, h6, h7⟩ = m := by rw [← Hmn.out, ← hn1, ← hn2]; rfl
  refine ⟨_, rfl, fun _ => hF, ?_⟩
  rw [hn1, hn2]
  clear hn1 hn2 hb8
  go_frame
  have hfld : ∀ W, (Instr.field 27 (.agg #[.int .i64 y1, .int .i64 y2, .int .i64 y3, .int .i64 y4, .int .i64 y5, .int .i64 n1, .int .i64 n2, .slice Ba ls.length da, .slice Bb ms.length db]) 0).run Try.prog W = .ok (.agg #[.int .i64 y1, .int .i64 y2, .int .i64 y3, .int .i64 y4, .int .i64 y5, .int .i64 n1, .int .i64 n2]) W := fun W => by kernel_rfl
  refine F_take (i := 2) (d := some 40) (by kernel_rfl) (by kernel_rfl) (by decide) (s' := #[true, true, true, true, true, false, false]) (by kernel_rfl) rfl rfl (by kernel_rfl) (by kernel_rfl) (by kernel_rfl) (fun _ _ _ h => h) (Or.inl ⟨by kernel_rfl, fun W hW => by obtain ⟨⟨x0, x1, x2, x3, x4, x5, x6, x7, x8, -⟩, k0, k1, k2, k3, k4, k5, k6, -⟩ := FB.out W hW; go_simp; try with_reducible rfl⟩) hF ?_
  go_frame
  refine F_one (i := 5) (s' := #[true, true, true, true, true, true, false]) (by kernel_rfl) (by kernel_rfl) (wpOp_enterL (i := 5) (d := some 43) (f := 22) (args := #[.agg #[.int .i64 y1, .int .i64 y2, .int .i64 y3, .int .i64 y4, .int .i64 y5, .int .i64 n1, .int .i64 n2], .agg #[.int .i64 h1, .int .i64 h2, .int .i64 h3, .int .i64 h4, .int .i64 h5, .int .i64 h6, .int .i64 h7]]) rfl rfl (by kernel_rfl) (by go_simp) ((newer_any _ _ _ _ _ _ _ _ _ _ _ _ _ _ _ Hag.out.1 Hag.out.2.1 Hag.out.2.2.1 Hag.out.2.2.2 hmn').mono ?_))
  rintro r v5w ⟨rfl, hb9⟩
  have hF := below_trans hF hF.size hb9
  refine ⟨_, rfl, fun _ => hF, ?_⟩
  go_frame
  refine F_one (i := 6) (s' := #[true, true, true, true, true, true, true]) (by kernel_rfl) (by kernel_rfl) (wpOp_valueL (i := 6) (d := some 9) (w' := v5w) (v := .int .i64 m) rfl rfl (by kernel_rfl) (by go_simp) ⟨fun h => absurd h (by decide), ?_⟩)
  go_frame
  refine F_done (by kernel_rfl) ?_ _
  have Hb9 := Lib.hid (below_trans Hb5.out Hb5.out.size hF)
  obtain ⟨⟨s0, s1, s2, s3, s4, s5, s6, s7, s8, -⟩, -⟩ := FB.out _ hF
  clear hF hb9 hmn' q0 q1 q2 q3 q4 q5 q6 q7 q8 qf c0 c1 c2 c3 c4 c5 c6 c7 c8 cf
  have hc0 : ¬ m = 0 := by omega
  go_wp2
  go_ret
  exact ⟨rfl, Hb9.out⟩
set_option maxHeartbeats 8000000 in
set_option maxRecDepth 100000 in
theorem Take_new (p b : Nat) (room : Int) (M : List Lsa) (y1 y2 y3 y4 y5 y6 y7 : Int) (ka : Option Addr) (kc : Nat) (ls : List Lnk) (ma : Option Addr) (mc : Nat) (ms : List Int) (w : World) (h : DbAt w p b room M) (hl : RowsAt 4 Lnk.cells w w.heap.size ka ls) (hm : RowsAt 1 icell w w.heap.size ma ms) (hlm : ls.length ≤ 1000) (hmm : ms.length ≤ 1000) (nl nm : Nat) (hnl : nl = ls.length) (hnm : nm = ms.length)
    (ht : rightB ⟨⟨y1, y2, y3, y4, y5, y6, y7⟩, ka, kc, ls, ma, mc, ms⟩ = true) {h1 h2 h3 h4 h5 h6 h7 : Int} {xa : Option Addr} {xc : Nat} {xs : List Lnk} {va : Option Addr} {vc : Nat} {vs : List Int} (hg : getX ⟨y2, y3, y4⟩ M = some ⟨⟨h1, h2, h3, h4, h5, h6, h7⟩, xa, xc, xs, va, vc, vs⟩) (hy0 : 0 ≤ y1) (hy1 : y1 ≤ 60) (hh0 : 0 ≤ h1) (hh1 : h1 ≤ 60) {m : Int} (hmn : newerI (sealedH ⟨y1, y2, y3, y4, y5, y6, y7⟩ ls ms) ⟨h1, h2, h3, h4, h5, h6, h7⟩ = m) (hcond : 0 < m) (busy : Bool) :
    Calls Try.prog 17 #[.pointer (some ⟨p, 0, none⟩), .agg #[.int .i64 y1, .int .i64 y2, .int .i64 y3, .int .i64 y4, .int .i64 y5, .int .i64 y6, .int .i64 y7, .slice ka nl kc, .slice ma nm mc], .bool busy] w fun r w' => r = .returned (.int .i64 2) ∧ PutTo w.heap.size w' p b room ⟨y1, y2, y3, y4, y5, y6, y7⟩ ls ms M ∧ w.grownBy w' (some b) := by
  obtain ⟨w1, hW1⟩ : ∃ w1, w.alloc (.cells #[.int .i64 y1, .int .i64 y2, .int .i64 y3, .int .i64 y4, .int .i64 y5, .int .i64 y6, .int .i64 y7, .slice ka nl kc, .slice ma nm mc] 27) = w1 := ⟨_, rfl⟩
  have hk1 := Blk.new w 27 #[.int .i64 y1, .int .i64 y2, .int .i64 y3, .int .i64 y4, .int .i64 y5, .int .i64 y6, .int .i64 y7, .slice ka nl kc, .slice ma nm mc]
  have hb1 := below_new w (.cells #[.int .i64 y1, .int .i64 y2, .int .i64 y3, .int .i64 y4, .int .i64 y5, .int .i64 y6, .int .i64 y7, .slice ka nl kc, .slice ma nm mc] 27)
  rw [hW1] at hk1 hb1
  have HR := Lib.hid (lsaRight_any y1 y2 y3 y4 y5 y6 y7 ka kc ls ma mc ms w1 w1.heap.size (rows_keep hl hb1) (rows_keep hm hb1) (Nat.le_refl _) (by unfold maxLen; omega) (by unfold maxLen; omega) nl nm hnl hnm ht)
  have HP := Lib.hid (fun W (hW : Below w.heap.size w W) => DbPut_ok p b room M y1 y2 y3 y4 y5 y6 y7 ka kc ls ma mc ms W (h.keep hW) (rows_keep hl hW) (rows_keep hm hW) hlm hmm nl nm hnl hnm ht (is := true) (by rw [hg]; rfl) (.inl rfl))
  have HS := Lib.hid (fun W (hW : Below w.heap.size w W) => seal_any y1 y2 y3 y4 y5 y6 y7 ka kc ls ma mc ms W w.heap.size (hl.below hW) (hm.below hW) hW.size hlm hmm nl nm hnl hnm ht (s1 := (sealedH ⟨y1, y2, y3, y4, y5, y6, y7⟩ ls ms).sum) (s2 := (sealedH ⟨y1, y2, y3, y4, y5, y6, y7⟩ ls ms).long) rfl)
  obtain ⟨xl, hxl⟩ : ∃ xl, xl = xs.length := ⟨_, rfl⟩
  obtain ⟨vl, hvl⟩ : ∃ vl, vl = vs.length := ⟨_, rfl⟩
  have HG := Lib.hid (fun W (hW : Below w.heap.size w W) => DbGet p b room M y2 y3 y4 W (h.keep hW) (h1 := h1) (h2 := h2) (h3 := h3) (h4 := h4) (h5 := h5) (h6 := h6) (h7 := h7) (ka := xa) (kc := xc) (ls := xs) (ma := va) (mc := vc) (ms := vs) (is := true) (by rw [hg]; rfl) (by rw [hg]; rfl) xl vl hxl hvl)
  have Hmn := Lib.hid hmn
  have Hag := Lib.hid (show _ ∧ _ ∧ _ ∧ _ from ⟨hy0, hy1, hh0, hh1⟩)
  have Hb1 := Lib.hid hb1
  have Hk1 := Lib.hid hk1
  obtain ⟨z0, z1, z2, z3, z4, z5, z6, z7, z8, zf⟩ := blk9 hk1
  clear hk1 hb1 hl hm hlm hmm hnl hnm ht hg h hmn hy0 hy1 hh0 hh1 hxl hvl
  go_enter Try.func17, Try.ntmps17
  go_upto_region 7 with (first
    | (go_at_call 63; (with_reducible refine Calls.mono HR.out ?_); rintro r w2 ⟨rfl, hb2⟩; obtain ⟨x0, x1, x2, x3, x4, x5, x6, x7, x8, xf⟩ := blk9 (Hk1.out.below hb2 Hk1.out.lt); have Hb2 := Lib.hid (below_trans Hb1.out Hb1.out.size hb2); have Hk2 := Lib.hid (Hk1.out.below hb2 Hk1.out.lt); clear hb2)
    | (go_at_call 20; (with_reducible refine Calls.mono (keyOf_any _ _ _ _ _ _ _ _) ?_); rintro r w3 ⟨rfl, hb3⟩; have Hb3 := Lib.hid (below_trans Hb2.out Hb2.out.size hb3); have Hk3 := Lib.hid (Hk2.out.below hb3 Hk2.out.lt); clear hb3)
    | (go_at_call 21; (with_reducible refine Calls.mono (HG.out _ Hb3.out) ?_); rintro r w4 ⟨Aa, ca, Ab, cb, rfl, -, -, hb4⟩; obtain ⟨w5, hw5⟩ : ∃ w5, w4.alloc (.cells #[.int .i64 h1, .int .i64 h2, .int .i64 h3, .int .i64 h4, .int .i64 h5, .int .i64 h6, .int .i64 h7, .slice Aa xl ca, .slice Ab vl cb] 27) = w5 := ⟨_, rfl⟩;
        have hb5 := below_new w4 (.cells #[.int .i64 h1, .int .i64 h2, .int .i64 h3, .int .i64 h4, .int .i64 h5, .int .i64 h6, .int .i64 h7, .slice Aa xl ca, .slice Ab vl cb] 27); rw [hw5] at hb5;
        have hq5 : Blk w5 w4.heap.size 27 #[.int .i64 h1, .int .i64 h2, .int .i64 h3, .int .i64 h4, .int .i64 h5, .int .i64 h6, .int .i64 h7, .slice Aa xl ca, .slice Ab vl cb] := hw5 ▸ Blk.new w4 _ _;
        have Hb5 := Lib.hid (below_trans (below_trans Hb3.out Hb3.out.size hb4) (below_trans Hb3.out Hb3.out.size hb4).size hb5);
        have hk5 := (Hk3.out.below hb4 Hk3.out.lt).below hb5 (Hk3.out.below hb4 Hk3.out.lt).lt;
        have FB := Lib.hid (fun W (hW : Below w5.heap.size w5 W) => (show _ ∧ _ from ⟨blk9 (hk5.below hW hk5.lt), blk9 (hq5.below hW hq5.lt)⟩));
        obtain ⟨q0, q1, q2, q3, q4, q5, q6, q7, q8, qf⟩ := blk9 hk5; obtain ⟨c0, c1, c2, c3, c4, c5, c6, c7, c8, cf⟩ := blk9 (Hk3.out.below hb4 Hk3.out.lt); clear hb4 hb5 hq5 hk5))
  refine wp_region_F (F := fun W => Below w5.heap.size w5 W) (n := 6) (m := 7) (s := #[false, false, false, false, false, false, false]) (by kernel_rfl) (by kernel_rfl) (by kernel_rfl) ?_
  intro wd hwd
  have hF : Below w5.heap.size w5 wd := by rw [hwd.out]; exact (Below.refl _ _).drew
  clear hwd
  refine F_take (i := 0) (d := some 38) (by kernel_rfl) (by kernel_rfl) (by decide) (s' := #[true, false, false, false, false, false, false]) (by kernel_rfl) rfl rfl (by kernel_rfl) (by kernel_rfl) (by kernel_rfl) (fun _ _ _ h => h) (Or.inl ⟨by kernel_rfl, fun W hW => by obtain ⟨⟨x0, x1, x2, x3, x4, x5, x6, x7, x8, -⟩, k0, k1, k2, k3, k4, k5, k6, -⟩ := FB.out W hW; go_simp; try with_reducible rfl⟩) hF ?_
  go_frame
  refine F_take (i := 3) (d := some 41) (by kernel_rfl) (by kernel_rfl) (by decide) (s' := #[true, false, false, true, false, false, false]) (by kernel_rfl) rfl rfl (by kernel_rfl) (by kernel_rfl) (by kernel_rfl) (fun _ _ _ h => h) (Or.inl ⟨by kernel_rfl, fun W hW => by obtain ⟨⟨x0, x1, x2, x3, x4, x5, x6, x7, x8, -⟩, k0, k1, k2, k3, k4, k5, k6, -⟩ := FB.out W hW; go_simp; try with_reducible rfl⟩) hF ?_
  go_frame
  refine F_take (i := 4) (d := some 42) (by kernel_rfl) (by kernel_rfl) (by decide) (s' := #[true, false, false, true, true, false, false]) (by kernel_rfl) rfl rfl (by kernel_rfl) (by kernel_rfl) (by kernel_rfl) (fun _ _ _ h => h) (Or.inl ⟨by kernel_rfl, fun W hW => by obtain ⟨⟨x0, x1, x2, x3, x4, x5, x6, x7, x8, -⟩, k0, k1, k2, k3, k4, k5, k6, -⟩ := FB.out W hW; go_simp; try with_reducible rfl⟩) hF ?_
  go_frame
  refine F_one (i := 1) (s' := #[true, true, false, true, true, false, false]) (by kernel_rfl) (by kernel_rfl) (wpOp_enterL (i := 1) (d := some 39) (f := 64) (args := #[.agg #[.int .i64 y1, .int .i64 y2, .int .i64 y3, .int .i64 y4, .int .i64 y5, .int .i64 y6, .int .i64 y7, .slice ka nl kc, .slice ma nm mc]]) rfl rfl (by kernel_rfl) (by go_simp) ((HS.out wd (below_trans Hb5.out Hb5.out.size hF)).mono ?_))
  rintro r v1w ⟨va', vb', rfl, oa, ob, hb8⟩
  obtain ⟨Ba, da, rfl⟩ := oa.shape
  obtain ⟨Bb, db, rfl⟩ := ob.shape
  clear oa ob
  have hF := below_trans hF hF.size hb8
  obtain ⟨n1, hn1⟩ : ∃ n, (sealedH ⟨y1, y2, y3, y4, y5, y6, y7⟩ ls ms).sum = n := ⟨_, rfl⟩
  obtain ⟨n2, hn2⟩ : ∃ n, (sealedH ⟨y1, y2, y3, y4, y5, y6, y7⟩ ls ms).long = n := ⟨_, rfl⟩
  have hmn' : newerI ⟨y1, y2, y3, y4, y5, n1, n2⟩ ⟨h1, h2, h3, h4, h5, h6, h7⟩ = m := by rw [← Hmn.out, ← hn1, ← hn2]; rfl
  refine ⟨_, rfl, fun _ => hF, ?_⟩
  rw [hn1, hn2]
  clear hn1 hn2 hb8
  go_frame
  have hfld : ∀ W, (Instr.field 27 (.agg #[.int .i64 y1, .int .i64 y2, .int .i64 y3, .int .i64 y4, .int .i64 y5, .int .i64 n1, .int .i64 n2, .slice Ba ls.length da, .slice Bb ms.length db]) 0).run Try.prog W = .ok (.agg #[.int .i64 y1, .int .i64 y2, .int .i64 y3, .int .i64 y4, .int .i64 y5, .int .i64 n1, .int .i64 n2]) W := fun W => by kernel_rfl
  refine F_take (i := 2) (d := some 40) (by kernel_rfl) (by kernel_rfl) (by decide) (s' := #[true, true, true, true, true, false, false]) (by kernel_rfl) rfl rfl (by kernel_rfl) (by kernel_rfl) (by kernel_rfl) (fun _ _ _ h => h) (Or.inl ⟨by kernel_rfl, fun W hW => by obtain ⟨⟨x0, x1, x2, x3, x4, x5, x6, x7, x8, -⟩, k0, k1, k2, k3, k4, k5, k6, -⟩ := FB.out W hW; go_simp; try with_reducible rfl⟩) hF ?_
  go_frame
  refine F_one (i := 5) (s' := #[true, true, true, true, true, true, false]) (by kernel_rfl) (by kernel_rfl) (wpOp_enterL (i := 5) (d := some 43) (f := 22) (args := #[.agg #[.int .i64 y1, .int .i64 y2, .int .i64 y3, .int .i64 y4, .int .i64 y5, .int .i64 n1, .int .i64 n2], .agg #[.int .i64 h1, .int .i64 h2, .int .i64 h3, .int .i64 h4, .int .i64 h5, .int .i64 h6, .int .i64 h7]]) rfl rfl (by kernel_rfl) (by go_simp) ((newer_any _ _ _ _ _ _ _ _ _ _ _ _ _ _ _ Hag.out.1 Hag.out.2.1 Hag.out.2.2.1 Hag.out.2.2.2 hmn').mono ?_))
  rintro r v5w ⟨rfl, hb9⟩
  have hF := below_trans hF hF.size hb9
  refine ⟨_, rfl, fun _ => hF, ?_⟩
  go_frame
  refine F_one (i := 6) (s' := #[true, true, true, true, true, true, true]) (by kernel_rfl) (by kernel_rfl) (wpOp_valueL (i := 6) (d := some 9) (w' := v5w) (v := .int .i64 m) rfl rfl (by kernel_rfl) (by go_simp) ⟨fun h => absurd h (by decide), ?_⟩)
  go_frame
  refine F_done (by kernel_rfl) ?_ _
  have Hb9 := Lib.hid (below_trans Hb5.out Hb5.out.size hF)
  obtain ⟨⟨s0, s1, s2, s3, s4, s5, s6, s7, s8, -⟩, -⟩ := FB.out _ hF
  clear hF hb9 hmn' q0 q1 q2 q3 q4 q5 q6 q7 q8 qf c0 c1 c2 c3 c4 c5 c6 c7 c8 cf
  have hc0 : ¬ m = 0 := by omega
  have hc1 : ¬ m < 0 := by omega
  go_wp2_with (go_at_call 34; (with_reducible refine Calls.mono (HP.out _ Hb9.out) ?_); rintro r w6 ⟨rfl, hd6, hg6⟩; have Hd6 := Lib.hid hd6; have Hg6 := Lib.hid (grown_trans (grown_below (World.grownBy.refl w (some b)) Hb9.out) hg6); clear hd6 hg6)
  go_ret
  exact ⟨rfl, Hd6.out.mono Hb9.out.size, Hg6.out⟩

end Go.Proofs.Ytmjjmkdjjfmhhaa
