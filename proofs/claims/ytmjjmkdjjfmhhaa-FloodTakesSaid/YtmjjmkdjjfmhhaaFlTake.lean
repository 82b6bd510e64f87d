/-
  Layer 18: what a database makes of a description: the program's way.
-/
import Derived.Test.YtmjjmkdjjfmhhaaDbPut
import Derived.Test.YtmjjmkdjjfmhhaaFlOrd
namespace Go.Proofs.Ytmjjmkdjjfmhhaa
open Go.RowKit

set_option maxHeartbeats 8000000 in
set_option maxRecDepth 100000 in
theorem Take_none (p b : Nat) (room : Int) (M : List Lsa) (y1 y2 y3 y4 y5 y6 y7 : Int) (ka : Option Addr) (kc : Nat) (ls : List Lnk) (ma : Option Addr) (mc : Nat) (ms : List Int) (w : World) (h : DbAt w p b room M) (hl : RowsAt 4 Lnk.cells w w.heap.size ka ls) (hm : RowsAt 1 icell w w.heap.size ma ms) (hlm : ls.length ≤ 1000) (hmm : ms.length ≤ 1000) (nl nm : Nat) (hnl : nl = ls.length) (hnm : nm = ms.length)
    (ht : rightB ⟨⟨y1, y2, y3, y4, y5, y6, y7⟩, ka, kc, ls, ma, mc, ms⟩ = true) (hg : getX ⟨y2, y3, y4⟩ M = none) (hroom : (M.length : Int) ≠ room) :
    Calls Try.prog 17 #[.pointer (some ⟨p, 0, none⟩), .agg #[.int .i64 y1, .int .i64 y2, .int .i64 y3, .int .i64 y4, .int .i64 y5, .int .i64 y6, .int .i64 y7, .slice ka nl kc, .slice ma nm mc], .bool true] w fun r w' => r = .returned (.int .i64 2) ∧ PutTo w.heap.size w' p b room ⟨y1, y2, y3, y4, y5, y6, y7⟩ ls ms M ∧ w.grownBy w' (some b) := by
  obtain ⟨w1, hW1⟩ : ∃ w1, w.alloc (.cells #[.int .i64 y1, .int .i64 y2, .int .i64 y3, .int .i64 y4, .int .i64 y5, .int .i64 y6, .int .i64 y7, .slice ka nl kc, .slice ma nm mc] 27) = w1 := ⟨_, rfl⟩
  have hk1 := Blk.new w 27 #[.int .i64 y1, .int .i64 y2, .int .i64 y3, .int .i64 y4, .int .i64 y5, .int .i64 y6, .int .i64 y7, .slice ka nl kc, .slice ma nm mc]
  have hb1 := below_new w (.cells #[.int .i64 y1, .int .i64 y2, .int .i64 y3, .int .i64 y4, .int .i64 y5, .int .i64 y6, .int .i64 y7, .slice ka nl kc, .slice ma nm mc] 27)
  rw [hW1] at hk1 hb1
  have HR := Lib.hid (lsaRight_any y1 y2 y3 y4 y5 y6 y7 ka kc ls ma mc ms w1 w1.heap.size (rows_keep hl hb1) (rows_keep hm hb1) (Nat.le_refl _) (by unfold maxLen; omega) (by unfold maxLen; omega) nl nm hnl hnm ht)
  have HP := Lib.hid (fun W (hW : Below w.heap.size w W) => DbPut_ok p b room M y1 y2 y3 y4 y5 y6 y7 ka kc ls ma mc ms W (h.keep hW) (rows_keep hl hW) (rows_keep hm hW) hlm hmm nl nm hnl hnm ht (is := false) (by rw [hg]; rfl) (.inr hroom))
  have HG := Lib.hid (fun W (hW : Below w.heap.size w W) => DbGet p b room M y2 y3 y4 W (h.keep hW) (h1 := 0) (h2 := 0) (h3 := 0) (h4 := 0) (h5 := 0) (h6 := 0) (h7 := 0) (ka := none) (kc := 0) (ls := []) (ma := none) (mc := 0) (ms := []) (is := false) (by rw [hg]; rfl) (by rw [hg]; rfl) 0 0 rfl rfl)
  have Hb1 := Lib.hid hb1
  have Hk1 := Lib.hid hk1
  obtain ⟨z0, z1, z2, z3, z4, z5, z6, z7, z8, zf⟩ := blk9 hk1
  clear hk1 hb1 hl hm hlm hmm hnl hnm ht hg hroom h
  by_cases hy60 : y1 = 60
  all_goals
    (try subst hy60)
    go_enter Try.func17, Try.ntmps17
    go_wp2_with (first
      | (go_at_call 63; (with_reducible refine Calls.mono HR.out ?_); rintro r w2 ⟨rfl, hb2⟩; obtain ⟨x0, x1, x2, x3, x4, x5, x6, x7, x8, xf⟩ := blk9 (Hk1.out.below hb2 Hk1.out.lt); have Hb2 := Lib.hid (below_trans Hb1.out Hb1.out.size hb2); have Hk2 := Lib.hid (Hk1.out.below hb2 Hk1.out.lt); clear hb2)
      | (go_at_call 20; (with_reducible refine Calls.mono (keyOf_any _ _ _ _ _ _ _ _) ?_); rintro r w3 ⟨rfl, hb3⟩; have Hb3 := Lib.hid (below_trans Hb2.out Hb2.out.size hb3); have Hk3 := Lib.hid (Hk2.out.below hb3 Hk2.out.lt); clear hb3)
      | (go_at_call 21; (with_reducible refine Calls.mono (HG.out _ Hb3.out) ?_); rintro r w4 ⟨Aa, ca, Ab, cb, rfl, -, -, hb4⟩; obtain ⟨w5, hw5⟩ : ∃ w5, w4.alloc (.cells #[.int .i64 0, .int .i64 0, .int .i64 0, .int .i64 0, .int .i64 0, .int .i64 0, .int .i64 0, .slice Aa 0 ca, .slice Ab 0 cb] 27) = w5 := ⟨_, rfl⟩;
          have hb5 := below_new w4 (.cells #[.int .i64 0, .int .i64 0, .int .i64 0, .int .i64 0, .int .i64 0, .int .i64 0, .int .i64 0, .slice Aa 0 ca, .slice Ab 0 cb] 27); rw [hw5] at hb5;
          have Hb5 := Lib.hid (below_trans (below_trans Hb3.out Hb3.out.size hb4) (below_trans Hb3.out Hb3.out.size hb4).size hb5);
          obtain ⟨q0, q1, q2, q3, q4, q5, q6, q7, q8, qf⟩ := blk9 ((Hk3.out.below hb4 Hk3.out.lt).below hb5 (Hk3.out.below hb4 Hk3.out.lt).lt); obtain ⟨c0, c1, c2, c3, c4, c5, c6, c7, c8, cf⟩ := blk9 (Hk3.out.below hb4 Hk3.out.lt); clear hb4 hb5)
      | (go_at_call 34; (with_reducible refine Calls.mono (HP.out _ Hb5.out) ?_); rintro r w6 ⟨rfl, hd6, hg6⟩; have Hd6 := Lib.hid hd6; have Hg6 := Lib.hid (grown_trans (grown_below (World.grownBy.refl w (some b)) Hb5.out) hg6); clear hd6 hg6)
      | fail)
    go_ret
    exact ⟨rfl, Hd6.out.mono Hb5.out.size, Hg6.out⟩

set_option maxHeartbeats 8000000 in
set_option maxRecDepth 100000 in
theorem Take_same (p b : Nat) (room : Int) (M : List Lsa) (y1 y2 y3 y4 y5 y6 y7 : Int) (ka : Option Addr) (kc : Nat) (ls : List Lnk) (ma : Option Addr) (mc : Nat) (ms : List Int) (w : World) (h : DbAt w p b room M) (hl : RowsAt 4 Lnk.cells w w.heap.size ka ls) (hm : RowsAt 1 icell w w.heap.size ma ms) (hlm : ls.length ≤ 1000) (hmm : ms.length ≤ 1000) (nl nm : Nat) (hnl : nl = ls.length) (hnm : nm = ms.length)
    (ht : rightB ⟨⟨y1, y2, y3, y4, y5, y6, y7⟩, ka, kc, ls, ma, mc, ms⟩ = true) {h1 h2 h3 h4 h5 h6 h7 : Int} {xa : Option Addr} {xc : Nat} {xs : List Lnk} {va : Option Addr} {vc : Nat} {vs : List Int} (hg : getX ⟨y2, y3, y4⟩ M = some ⟨⟨h1, h2, h3, h4, h5, h6, h7⟩, xa, xc, xs, va, vc, vs⟩) (hy0 : 0 ≤ y1) (hy1 : y1 ≤ 60) (hh0 : 0 ≤ h1) (hh1 : h1 ≤ 60) {m : Int} (hmn : newerI (sealedH ⟨y1, y2, y3, y4, y5, y6, y7⟩ ls ms) ⟨h1, h2, h3, h4, h5, h6, h7⟩ = m) (hcond : m = 0) (busy : Bool) :
    Calls Try.prog 17 #[.pointer (some ⟨p, 0, none⟩), .agg #[.int .i64 y1, .int .i64 y2, .int .i64 y3, .int .i64 y4, .int .i64 y5, .int .i64 y6, .int .i64 y7, .slice ka nl kc, .slice ma nm mc], .bool busy] w fun r w' => r = .returned (.int .i64 3) ∧ Below w.heap.size w w' := by
  obtain ⟨w1, hW1⟩ : ∃ w1, w.alloc (.cells #[.int .i64 y1, .int .i64 y2, .int .i64 y3, .int .i64 y4, .int .i64 y5, .int .i64 y6, .int .i64 y7, .slice ka nl kc, .slice ma nm mc] 27) = w1 := ⟨_, rfl⟩
  have hk1 := Blk.new w 27 #[.int .i64 y1, .int .i64 y2, .int .i64 y3, .int .i64 y4, .int .i64 y5, .int .i64 y6, .int .i64 y7, .slice ka nl kc, .slice ma nm mc]
  have hb1 := below_new w (.cells #[.int .i64 y1, .int .i64 y2, .int .i64 y3, .int .i64 y4, .int .i64 y5, .int .i64 y6, .int .i64 y7, .slice ka nl kc, .slice ma nm mc] 27)
  rw [hW1] at hk1 hb1
  have HR := Lib.hid (lsaRight_any y1 y2 y3 y4 y5 y6 y7 ka kc ls ma mc ms w1 w1.heap.size (rows_keep hl hb1) (rows_keep hm hb1) (Nat.le_refl _) (by unfold maxLen; omega) (by unfold maxLen; omega) nl nm hnl hnm ht)
  have HS := Lib.hid (fun W (hW : Below w.heap.size w W) => seal_any y1 y2 y3 y4 y5 y6 y7 ka kc ls ma mc ms W w.heap.size (hl.below hW) (hm.below hW) hW.size hlm hmm nl nm hnl hnm ht (s1 := (sealedH ⟨y1, y2, y3, y4, y5, y6, y7⟩ ls ms).sum) (s2 := (sealedH ⟨y1, y2, y3, y4, y5, y6, y7⟩ ls ms).long) rfl)
  obtain ⟨xl, hxl⟩ : ∃ xl, xl = xs.length := ⟨_, rfl⟩
  obtain ⟨vl, hvl⟩ : ∃ vl, vl = vs.length := ⟨_, rfl⟩
  have HG := Lib.hid (fun W (hW : Below w.heap.size w W) => DbGet p b room M y2 y3 y4 W (h.keep hW) (h1 := h1) (h2 := h2) (h3 := h3) (h4 := h4) (h5 := h5) (h6 := h6) (h7 := h7) (ka := xa) (kc := xc) (ls := xs) (ma := va) (mc := vc) (ms := vs) (is := true) (by rw [hg]; rfl) (by rw [hg]; rfl) xl vl hxl hvl)
  have Hmn := Lib.hid hmn
  have Hag := Lib.hid (show _ ∧ _ ∧ _ ∧ _ from ⟨hy0, hy1, hh0, hh1⟩)
  have Hb1 := Lib.hid hb1
  have Hk1 := Lib.hid hk1
  obtain ⟨z0, z1, z2, z3, z4, z5, z6, z7, z8, zf⟩ := blk9 hk1
  clear hk1 hb1 hl hm hlm hmm hnl hnm ht hg h hmn hy0 hy1 hh0 hh1 hxl hvl
  go_enter Try.func17, Try.ntmps17
  go_upto_region 7 with (first
    | (go_at_call 63; (with_reducible refine Calls.mono HR.out ?_); rintro r w2 ⟨rfl, hb2⟩; obtain ⟨x0, x1, x2, x3, x4, x5, x6, x7, x8, xf⟩ := blk9 (Hk1.out.below hb2 Hk1.out.lt); have Hb2 := Lib.hid (below_trans Hb1.out Hb1.out.size hb2); have Hk2 := Lib.hid (Hk1.out.below hb2 Hk1.out.lt); clear hb2)
    | (go_at_call 20; (with_reducible refine Calls.mono (keyOf_any _ _ _ _ _ _ _ _) ?_); rintro r w3 ⟨rfl, hb3⟩; have Hb3 := Lib.hid (below_trans Hb2.out Hb2.out.size hb3); have Hk3 := Lib.hid (Hk2.out.below hb3 Hk2.out.lt); clear hb3)
    | (go_at_call 21; (with_reducible refine Calls.mono (HG.out _ Hb3.out) ?_); rintro r w4 ⟨Aa, ca, Ab, cb, rfl, -, -, hb4⟩; obtain ⟨w5, hw5⟩ : ∃ w5, w4.alloc (.cells #[.int .i64 h1, .int .i64 h2, .int .i64 h3, .int .i64 h4, .int .i64 h5, .int .i64 h6, .int .i64 h7, .slice Aa xl ca, .slice Ab vl cb] 27) = w5 := ⟨_, rfl⟩;
        have hb5 := below_new w4 (.cells #[.int .i64 h1, .int .i64 h2, .int .i64 h3, .int .i64 h4, .int .i64 h5, .int .i64 h6, .int .i64 h7, .slice Aa xl ca, .slice Ab vl cb] 27); rw [hw5] at hb5;
        have hq5 : Blk w5 w4.heap.size 27 #[.int .i64 h1, .int .i64 h2, .int .i64 h3, .int .i64 h4, .int .i64 h5, .int .i64 h6, .int .i64 h7, .slice Aa xl ca, .slice Ab vl cb] := hw5 ▸ Blk.new w4 _ _;
        have Hb5 := Lib.hid (below_trans (below_trans Hb3.out Hb3.out.size hb4) (below_trans Hb3.out Hb3.out.size hb4).size hb5);
        have hk5 := (Hk3.out.below hb4 Hk3.out.lt).below hb5 (Hk3.out.below hb4 Hk3.out.lt).lt;
        have FB := Lib.hid (fun W (hW : Below w5.heap.size w5 W) => (show _ ∧ _ from ⟨blk9 (hk5.below hW hk5.lt), blk9 (hq5.below hW hq5.lt)⟩));
        obtain ⟨q0, q1, q2, q3, q4, q5, q6, q7, q8, qf⟩ := blk9 hk5; obtain ⟨c0, c1, c2, c3, c4, c5, c6, c7, c8, cf⟩ := blk9 (Hk3.out.below hb4 Hk3.out.lt); clear hb4 hb5 hq5 hk5))
  refine wp_region_F (F := fun W => Below w5.heap.size w5 W) (n := 6) (m := 7) (s := #[false, false, false, false, false, false, false]) (by kernel_rfl) (by kernel_rfl) (by kernel_rfl) ?_
  intro wd hwd
  have hF : Below w5.heap.size w5 wd := by rw [hwd.out]; exact (Below.refl _ _).drew
  clear hwd
  refine F_take (i := 0) (d := some 38) (by kernel_rfl) (by kernel_rfl) (by decide) (s' := #[true, false, false, false, false, false, false]) (by kernel_rfl) rfl rfl (by kernel_rfl) (by kernel_rfl) (by kernel_rfl) (fun _ _ _ h => h) (Or.inl ⟨by kernel_rfl, fun W hW => by obtain ⟨⟨x0, x1, x2, x3, x4, x5, x6, x7, x8, -⟩, k0, k1, k2, k3, k4, k5, k6, -⟩ := FB.out W hW; go_simp; try with_reducible rfl⟩) hF ?_
  go_frame
  refine F_take (i := 3) (d := some 41) (by kernel_rfl) (by kernel_rfl) (by decide) (s' := #[true, false, false, true, false, false, false]) (by kernel_rfl) rfl rfl (by kernel_rfl) (by kernel_rfl) (by kernel_rfl) (fun _ _ _ h => h) (Or.inl ⟨by kernel_rfl, fun W hW => by obtain ⟨⟨x0, x1, x2, x3, x4, x5, x6, x7, x8, -⟩, k0, k1, k2, k3, k4, k5, k6, -⟩ := FB.out W hW; go_simp; try with_reducible rfl⟩) hF ?_
  go_frame
  refine F_take (i := 4) (d := some 42) (by kernel_rfl) (by kernel_rfl) (by decide) (s' := #[true, false, false, true, true, false, false]) (by kernel_rfl) rfl rfl (by kernel_rfl) (by kernel_rfl) (by kernel_rfl) (fun _ _ _ h => h) (Or.inl ⟨by kernel_rfl, fun W hW => by obtain ⟨⟨x0, x1, x2, x3, x4, x5, x6, x7, x8, -⟩, k0, k1, k2, k3, k4, k5, k6, -⟩ := FB.out W hW; go_simp; try with_reducible rfl⟩) hF ?_
  go_frame
  refine F_one (i := 1) (s' := #[true, true, false, true, true, false, false]) (by kernel_rfl) (by kernel_rfl) (wpOp_enterL (i := 1) (d := some 39) (f := 64) (args := #[.agg #[.int .i64 y1, .int .i64 y2, .int .i64 y3, .int .i64 y4, .int .i64 y5, .int .i64 y6, .int .i64 y7, .slice ka nl kc, .slice ma nm mc]]) rfl rfl (by kernel_rfl) (by go_simp) ((HS.out wd (below_trans Hb5.out Hb5.out.size hF)).mono ?_))
  rintro r v1w ⟨va', vb', rfl, oa, ob, hb8⟩
  obtain ⟨Ba, da, rfl⟩ := oa.shape
  obtain ⟨Bb, db, rfl⟩ := ob.shape
  clear oa ob
  have hF := below_trans hF hF.size hb8
  obtain ⟨n1, hn1⟩ : ∃ n, (sealedH ⟨y1, y2, y3, y4, y5, y6, y7⟩ ls ms).sum = n := ⟨_, rfl⟩
  obtain ⟨n2, hn2⟩ : ∃ n, (sealedH ⟨y1, y2, y3, y4, y5, y6, y7⟩ ls ms).long = n := ⟨_, rfl⟩
  have hmn' : newerI ⟨y1, y2, y3, y4, y5, n1, n2⟩ ⟨h1, h2, h3, h4, h5, h6, h7⟩ = m := by rw [← Hmn.out, ← hn1, ← hn2]; rfl
  refine ⟨_, rfl, fun _ => hF, ?_⟩
  rw [hn1, hn2]
  clear hn1 hn2 hb8
  go_frame
  have hfld : ∀ W, (Instr.field 27 (.agg #[.int .i64 y1, .int .i64 y2, .int .i64 y3, .int .i64 y4, .int .i64 y5, .int .i64 n1, .int .i64 n2, .slice Ba ls.length da, .slice Bb ms.length db]) 0).run Try.prog W = .ok (.agg #[.int .i64 y1, .int .i64 y2, .int .i64 y3, .int .i64 y4, .int .i64 y5, .int .i64 n1, .int .i64 n2]) W := fun W => by kernel_rfl
  refine F_take (i := 2) (d := some 40) (by kernel_rfl) (by kernel_rfl) (by decide) (s' := #[true, true, true, true, true, false, false]) (by kernel_rfl) rfl rfl (by kernel_rfl) (by kernel_rfl) (by kernel_rfl) (fun _ _ _ h => h) (Or.inl ⟨by kernel_rfl, fun W hW => by obtain ⟨⟨x0, x1, x2, x3, x4, x5, x6, x7, x8, -⟩, k0, k1, k2, k3, k4, k5, k6, -⟩ := FB.out W hW; go_simp; try with_reducible rfl⟩) hF ?_
  go_frame
  refine F_one (i := 5) (s' := #[true, true, true, true, true, true, false]) (by kernel_rfl) (by kernel_rfl) (wpOp_enterL (i := 5) (d := some 43) (f := 22) (args := #[.agg #[.int .i64 y1, .int .i64 y2, .int .i64 y3, .int .i64 y4, .int .i64 y5, .int .i64 n1, .int .i64 n2], .agg #[.int .i64 h1, .int .i64 h2, .int .i64 h3, .int .i64 h4, .int .i64 h5, .int .i64 h6, .int .i64 h7]]) rfl rfl (by kernel_rfl) (by go_simp) ((newer_any _ _ _ _ _ _ _ _ _ _ _ _ _ _ _ Hag.out.1 Hag.out.2.1 Hag.out.2.2.1 Hag.out.2.2.2 hmn').mono ?_))
  rintro r v5w ⟨rfl, hb9⟩
  have hF := below_trans hF hF.size hb9
  refine ⟨_, rfl, fun _ => hF, ?_⟩
  go_frame
  refine F_one (i := 6) (s' := #[true, true, true, true, true, true, true]) (by kernel_rfl) (by kernel_rfl) (wpOp_valueL (i := 6) (d := some 9) (w' := v5w) (v := .int .i64 m) rfl rfl (by kernel_rfl) (by go_simp) ⟨fun h => absurd h (by decide), ?_⟩)
  go_frame
  refine F_done (by kernel_rfl) ?_ _
  have Hb9 := Lib.hid (below_trans Hb5.out Hb5.out.size hF)
  obtain ⟨⟨s0, s1, s2, s3, s4, s5, s6, s7, s8, -⟩, -⟩ := FB.out _ hF
  clear hF hb9 hmn' q0 q1 q2 q3 q4 q5 q6 q7 q8 qf c0 c1 c2 c3 c4 c5 c6 c7 c8 cf
  subst hcond
  go_wp2
  go_ret
  exact ⟨rfl, Hb9.out⟩
set_option maxHeartbeats 8000000 in
set_option maxRecDepth 100000 in
theorem Take_old (p b : Nat) (room : Int) (M : List Lsa) (y1 y2 y3 y4 y5 y6 y7 : Int) (ka : Option Addr) (kc : Nat) (ls : List Lnk) (ma : Option Addr) (mc : Nat) (ms : List Int) (w : World) (h : DbAt w p b room M) (hl : RowsAt 4 Lnk.cells w w.heap.size ka ls) (hm : RowsAt 1 icell w w.heap.size ma ms) (hlm : ls.length ≤ 1000) (hmm : ms.length ≤ 1000) (nl nm : Nat) (hnl : nl = ls.length) (hnm : nm = ms.length)
    (ht : rightB ⟨⟨y1, y2, y3, y4, y5, y6, y7⟩, ka, kc, ls, ma, mc, ms⟩ = true) {h1 h2 h3 h4 h5 h6 h7 : Int} {xa : Option Addr} {xc : Nat} {xs : List Lnk} {va : Option Addr} {vc : Nat} {vs : List Int} (hg : getX ⟨y2, y3, y4⟩ M = some ⟨⟨h1, h2, h3, h4, h5, h6, h7⟩, xa, xc, xs, va, vc, vs⟩) (hy0 : 0 ≤ y1) (hy1 : y1 ≤ 60) (hh0 : 0 ≤ h1) (hh1 : h1 ≤ 60) {m : Int} (hmn : newerI (sealedH ⟨y1, y2, y3, y4, y5, y6, y7⟩ ls ms) ⟨h1, h2, h3, h4, h5, h6, h7⟩ = m) (hcond : m < 0) (busy : Bool) :
    Calls Try.prog 17 #[.pointer (some ⟨p, 0, none⟩), .agg #[.int .i64 y1, .int .i64 y2, .int .i64 y3, .int .i64 y4, .int .i64 y5, .int .i64 y6, .int .i64 y7, .slice ka nl kc, .slice ma nm mc], .bool busy] w fun r w' => r = .returned (.int .i64 4) ∧ Below w.heap.size w w' := by
  obtain ⟨w1, hW1⟩ : ∃ w1, w.alloc (.cells #[.int .i64 y1, .int .i64 y2, .int .i64 y3, .int .i64 y4, .int .i64 y5, .int .i64 y6, .int .i64 y7, .slice ka nl kc, .slice ma nm mc] 27) = w1 := ⟨_, rfl⟩
  have hk1 := Blk.new w 27 #[.int .i64 y1, .int .i64 y2, .int .i64 y3, .int .i64 y4, .int .i64 y5, .int .i64 y6, .int .i64 y7, .slice ka nl kc, .slice ma nm mc]
  have hb1 := below_new w (.cells #[.int .i64 y1, .int .i64 y2, .int .i64 y3, .int .i64 y4, .int .i64 y5, .int .i64 y6, .int .i64 y7, .slice ka nl kc, .slice ma nm mc] 27)
  rw [hW1] at hk1 hb1
  have HR := Lib.hid (lsaRight_any y1 y2 y3 y4 y5 y6 y7 ka kc ls ma mc ms w1 w1.heap.size (rows_keep hl hb1) (rows_keep hm hb1) (Nat.le_refl _) (by unfold maxLen; omega) (by unfold maxLen; omega) nl nm hnl hnm ht)
  have HS := Lib.hid (fun W (hW : Below w.heap.size w W) => seal_any y1 y2 y3 y4 y5 y6 y7 ka kc ls ma mc ms W w.heap.size (hl.below hW) (hm.below hW) hW.size hlm hmm nl nm hnl hnm ht (s1 := (sealedH ⟨y1, y2, y3, y4, y5, y6, y7⟩ ls ms).sum) (s2 := (sealedH ⟨y1, y2, y3, y4, y5, y6, y7⟩ ls ms).long) rfl)
  obtain ⟨xl, hxl⟩ : ∃ xl, xl = xs.length := ⟨_, rfl⟩
  obtain ⟨vl, hvl⟩ : ∃ vl, vl = vs.length := ⟨_, rfl⟩
  have HG := Lib.hid (fun W (hW : Below w.heap.size w W) => DbGet p b room M y2 y3 y4 W (h.keep hW) (h1 := h1) (h2 := h2) (h3 := h3) (h4 := h4) (h5 := h5) (h6 := h6) (h7 := h7) (ka := xa) (kc := xc) (ls := xs) (ma := va) (mc := vc) (ms := vs) (is := true) (by rw [hg]; rfl) (by rw [hg]; rfl) xl vl hxl hvl)
  have Hmn := Lib.hid hmn
  have Hag := Lib.hid (show _ ∧ _ ∧ _ ∧ _ from ⟨hy0, hy1, hh0, hh1⟩)
  have Hb1 := Lib.hid hb1
  have Hk1 := Lib.hid hk1
  obtain ⟨z0, z1, z2, z3, z4, z5, z6, z7, z8, zf⟩ := blk9 hk1
  clear hk1 hb1 hl hm hlm hmm hnl hnm ht hg h hmn hy0 hy1 hh0 hh1 hxl hvl
  go_enter Try.func17, Try.ntmps17
  go_upto_region 7 with (first
    | (go_at_call 63; (with_reducible refine Calls.mono HR.out ?_); rintro r w2 ⟨rfl, hb2⟩; obtain ⟨x0, x1, x2, x3, x4, x5, x6, x7, x8, xf⟩ := blk9 (Hk1.out.below hb2 Hk1.out.lt); have Hb2 := Lib.hid (below_trans Hb1.out Hb1.out.size hb2); have Hk2 := Lib.hid (Hk1.out.below hb2 Hk1.out.lt); clear hb2)
    | (go_at_call 20; (with_reducible refine Calls.mono (keyOf_any _ _ _ _ _ _ _ _) ?_); rintro r w3 ⟨rfl, hb3⟩; have Hb3 := Lib.hid (below_trans Hb2.out Hb2.out.size hb3); have Hk3 := Lib.hid (Hk2.out.below hb3 Hk2.out.lt); clear hb3)
    | (go_at_call 21; (with_reducible refine Calls.mono (HG.out _ Hb3.out) ?_); rintro r w4 ⟨Aa, ca, Ab, cb, rfl, -, -, hb4⟩; obtain ⟨w5, hw5⟩ : ∃ w5, w4.alloc (.cells #[.int .i64 h1, .int .i64 h2, .int .i64 h3, .int .i64 h4, .int .i64 h5, .int .i64 h6, .int .i64 h7, .slice Aa xl ca, .slice Ab vl cb] 27) = w5 := ⟨_, rfl⟩;
        have hb5 := below_new w4 (.cells #[.int .i64 h1, .int .i64 h2, .int .i64 h3, .int .i64 h4, .int .i64 h5, .int .i64 h6, .int .i64 h7, .slice Aa xl ca, .slice Ab vl cb] 27); rw [hw5] at hb5;
        have hq5 : Blk w5 w4.heap.size 27 #[.int .i64 h1, .int .i64 h2, .int .i64 h3, .int .i64 h4, .int .i64 h5, .int .i64 h6, .int .i64 h7, .slice Aa xl ca, .slice Ab vl cb] := hw5 ▸ Blk.new w4 _ _;
        have Hb5 := Lib.hid (below_trans (below_trans Hb3.out Hb3.out.size hb4) (below_trans Hb3.out Hb3.out.size hb4).size hb5);
        have hk5 := (Hk3.out.below hb4 Hk3.out.lt).below hb5 (Hk3.out.below hb4 Hk3.out.lt).lt;
        have FB := Lib.hid (fun W (hW : Below w5.heap.size w5 W) => (show _ ∧ _ from ⟨blk9 (hk5.below hW hk5.lt), blk9 (hq5.below hW hq5.lt)⟩));
        obtain ⟨q0, q1, q2, q3, q4, q5, q6, q7, q8, qf⟩ := blk9 hk5; obtain ⟨c0, c1, c2, c3, c4, c5, c6, c7, c8, cf⟩ := blk9 (Hk3.out.below hb4 Hk3.out.lt); clear hb4 hb5 hq5 hk5))
  refine wp_region_F (F := fun W => Below w5.heap.size w5 W) (n := 6) (m := 7) (s := #[false, false, false, false, false, false, false]) (by kernel_rfl) (by kernel_rfl) (by kernel_rfl) ?_
  intro wd hwd
  have hF : Below w5.heap.size w5 wd := by rw [hwd.out]; exact (Below.refl _ _).drew
  clear hwd
  refine F_take (i := 0) (d := some 38) (by kernel_rfl) (by kernel_rfl) (by decide) (s' := #[true, false, false, false, false, false, false]) (by kernel_rfl) rfl rfl (by kernel_rfl) (by kernel_rfl) (by kernel_rfl) (fun _ _ _ h => h) (Or.inl ⟨by kernel_rfl, fun W hW => by obtain ⟨⟨x0, x1, x2, x3, x4, x5, x6, x7, x8, -⟩, k0, k1, k2, k3, k4, k5, k6, -⟩ := FB.out W hW; go_simp; try with_reducible rfl⟩) hF ?_
  go_frame
  refine F_take (i := 3) (d := some 41) (by kernel_rfl) (by kernel_rfl) (by decide) (s' := #[true, false, false, true, false, false, false]) (by kernel_rfl) rfl rfl (by kernel_rfl) (by kernel_rfl) (by kernel_rfl) (fun _ _ _ h => h) (Or.inl ⟨by kernel_rfl, fun W hW => by obtain ⟨⟨x0, x1, x2, x3, x4, x5, x6, x7, x8, -⟩, k0, k1, k2, k3, k4, k5, k6, -⟩ := FB.out W hW; go_simp; try with_reducible rfl⟩) hF ?_
  go_frame
  refine F_take (i := 4) (d := some 42) (by kernel_rfl) (by kernel_rfl) (by decide) (s' := #[true, false, false, true, true, false, false]) (by kernel_rfl) rfl rfl (by kernel_rfl) (by kernel_rfl) (by kernel_rfl) (fun _ _ _ h => h) (Or.inl ⟨by kernel_rfl, fun W hW => by obtain ⟨⟨x0, x1, x2, x3, x4, x5, x6, x7, x8, -⟩, k0, k1, k2, k3, k4, k5, k6, -⟩ := FB.out W hW; go_simp; try with_reducible rfl⟩) hF ?_
  go_frame
  refine F_one (i := 1) (s' := #[true, true, false, true, true, false, false]) (by kernel_rfl) (by kernel_rfl) (wpOp_enterL (i := 1) (d := some 39) (f := 64) (args := #[.agg #[.int .i64 y1, .int .i64 y2, .int .i64 y3, .int .i64 y4, .int .i64 y5, .int .i64 y6, .int .i64 y7, .slice ka nl kc, .slice ma nm mc]]) rfl rfl (by kernel_rfl) (by go_simp) ((HS.out wd (below_trans Hb5.out Hb5.out.size hF)).mono ?_))
  rintro r v1w ⟨va', vb', rfl, oa, ob, hb8⟩
  obtain ⟨Ba, da, rfl⟩ := oa.shape
  obtain ⟨Bb, db, rfl⟩ := ob.shape
  clear oa ob
  have hF := below_trans hF hF.size hb8
  obtain ⟨n1, hn1⟩ : ∃ n, (sealedH ⟨y1, y2, y3, y4, y5, y6, y7⟩ ls ms).sum = n := ⟨_, rfl⟩
  obtain ⟨n2, hn2⟩ : ∃ n, (sealedH ⟨y1, y2, y3, y4, y5, y6, y7⟩ ls ms).long = n := ⟨_, rfl⟩
  have hmn' : newerI ⟨y1, y2, y3, y4, y5, n1, n2⟩ ⟨h1, h2, h3, h4, h5, h6, h7⟩ = m := by rw [← Hmn.out, ← hn1, ← hn2]; rfl
  refine ⟨_, rfl, fun _ => hF, ?_⟩
  rw [hn1, hn2]
  clear hn1 hn2 hb8
  go_frame
  have hfld : ∀ W, (Instr.field 27 (.agg #[.int .i64 y1, .int .i64 y2, .int .i64 y3, .int .i64 y4, .int .i64 y5, .int .i64 n1, .int .i64 n2, .slice Ba ls.length da, .slice Bb ms.length db]) 0).run Try.prog W = .ok (.agg #[.int .i64 y1, .int .i64 y2, .int .i64 y3, .int .i64 y4, .int .i64 y5, .int .i64 n1, .int .i64 n2]) W := fun W => by kernel_rfl
  refine F_take (i := 2) (d := some 40) (by kernel_rfl) (by kernel_rfl) (by decide) (s' := #[true, true, true, true, true, false, false]) (by kernel_rfl) rfl rfl (by kernel_rfl) (by kernel_rfl) (by kernel_rfl) (fun _ _ _ h => h) (Or.inl ⟨by kernel_rfl, fun W hW => by obtain ⟨⟨x0, x1, x2, x3, x4, x5, x6, x7, x8, -⟩, k0, k1, k2, k3, k4, k5, k6, -⟩ := FB.out W hW; go_simp; try with_reducible rfl⟩) hF ?_
  go_frame
  refine F_one (i := 5) (s' := #[true, true, true, true, true, true, false]) (by kernel_rfl) (by kernel_rfl) (wpOp_enterL (i := 5) (d := some 43) (f := 22) (args := #[.agg #[.int .i64 y1, .int .i64 y2, .int .i64 y3, .int .i64 y4, .int .i64 y5, .int .i64 n1, .int .i64 n2], .agg #[.int .i64 h1, .int .i64 h2, .int .i64 h3, .int .i64 h4, .int .i64 h5, .int .i64 h6, .int .i64 h7]]) rfl rfl (by kernel_rfl) (by go_simp) ((newer_any _ _ _ _ _ _ _ _ _ _ _ _ _ _ _ Hag.out.1 Hag.out.2.1 Hag.out.2.2.1 Hag.out.2.2.2 hmn').mono ?_))
  rintro r v5w ⟨rfl, hb9⟩
  have hF := below_trans hF hF.size hb9
  refine ⟨_, rfl, fun _ => hF, ?_⟩
  go_frame
  refine F_one (i := 6) (s' := #[true, true, true, true, true, true, true]) (by kernel_rfl) (by kernel_rfl) (wpOp_valueL (i := 6) (d := some 9) (w' := v5w) (v := .int .i64 m) rfl rfl (by kernel_rfl) (by go_simp) ⟨fun h => absurd h (by decide), ?_⟩)
  go_frame
  refine F_done (by kernel_rfl) ?_ _
  have Hb9 := Lib.hid (below_trans Hb5.out Hb5.out.size hF)
  obtain ⟨⟨s0, s1, s2, s3, s4, s5, s6, s7, s8, -⟩, -⟩ := FB.out _ hF
  clear hF hb9 hmn' q0 q1 q2 q3 q4 q5 q6 q7 q8 qf c0 c1 c2 c3 c4 c5 c6 c7 c8 cf
  have hc0 : ¬ m = 0 := by omega
  go_wp2
  go_ret
  exact ⟨rfl, Hb9.out⟩
set_option maxHeartbeats 8000000 in
set_option maxRecDepth 100000 in
theorem Take_new (p b : Nat) (room : Int) (M : List Lsa) (y1 y2 y3 y4 y5 y6 y7 : Int) (ka : Option Addr) (kc : Nat) (ls : List Lnk) (ma : Option Addr) (mc : Nat) (ms : List Int) (w : World) (h : DbAt w p b room M) (hl : RowsAt 4 Lnk.cells w w.heap.size ka ls) (hm : RowsAt 1 icell w w.heap.size ma ms) (hlm : ls.length ≤ 1000) (hmm : ms.length ≤ 1000) (nl nm : Nat) (hnl : nl = ls.length) (hnm : nm = ms.length)
    (ht : rightB ⟨⟨y1, y2, y3, y4, y5, y6, y7⟩, ka, kc, ls, ma, mc, ms⟩ = true) {h1 h2 h3 h4 h5 h6 h7 : Int} {xa : Option Addr} {xc : Nat} {xs : List Lnk} {va : Option Addr} {vc : Nat} {vs : List Int} (hg : getX ⟨y2, y3, y4⟩ M = some ⟨⟨h1, h2, h3, h4, h5, h6, h7⟩, xa, xc, xs, va, vc, vs⟩) (hy0 : 0 ≤ y1) (hy1 : y1 ≤ 60) (hh0 : 0 ≤ h1) (hh1 : h1 ≤ 60) {m : Int} (hmn : newerI (sealedH ⟨y1, y2, y3, y4, y5, y6, y7⟩ ls ms) ⟨h1, h2, h3, h4, h5, h6, h7⟩ = m) (hcond : 0 < m) (busy : Bool) :
    Calls Try.prog 17 #[.pointer (some ⟨p, 0, none⟩), .agg #[.int .i64 y1, .int .i64 y2, .int .i64 y3, .int .i64 y4, .int .i64 y5, .int .i64 y6, .int .i64 y7, .slice ka nl kc, .slice ma nm mc], .bool busy] w fun r w' => r = .returned (.int .i64 2) ∧ PutTo w.heap.size w' p b room ⟨y1, y2, y3, y4, y5, y6, y7⟩ ls ms M ∧ w.grownBy w' (some b) := by
  obtain ⟨w1, hW1⟩ : ∃ w1, w.alloc (.cells #[.int .i64 y1, .int .i64 y2, .int .i64 y3, .int .i64 y4, .int .i64 y5, .int .i64 y6, .int .i64 y7, .slice ka nl kc, .slice ma nm mc] 27) = w1 := ⟨_, rfl⟩
  have hk1 := Blk.new w 27 #[.int .i64 y1, .int .i64 y2, .int .i64 y3, .int .i64 y4, .int .i64 y5, .int .i64 y6, .int .i64 y7, .slice ka nl kc, .slice ma nm mc]
  have hb1 := below_new w (.cells #[.int .i64 y1, .int .i64 y2, .int .i64 y3, .int .i64 y4, .int .i64 y5, .int .i64 y6, .int .i64 y7, .slice ka nl kc, .slice ma nm mc] 27)
  rw [hW1] at hk1 hb1
  have HR := Lib.hid (lsaRight_any y1 y2 y3 y4 y5 y6 y7 ka kc ls ma mc ms w1 w1.heap.size (rows_keep hl hb1) (rows_keep hm hb1) (Nat.le_refl _) (by unfold maxLen; omega) (by unfold maxLen; omega) nl nm hnl hnm ht)
  have HP := Lib.hid (fun W (hW : Below w.heap.size w W) => DbPut_ok p b room M y1 y2 y3 y4 y5 y6 y7 ka kc ls ma mc ms W (h.keep hW) (rows_keep hl hW) (rows_keep hm hW) hlm hmm nl nm hnl hnm ht (is := true) (by rw [hg]; rfl) (.inl rfl))
  have HS := Lib.hid (fun W (hW : Below w.heap.size w W) => seal_any y1 y2 y3 y4 y5 y6 y7 ka kc ls ma mc ms W w.heap.size (hl.below hW) (hm.below hW) hW.size hlm hmm nl nm hnl hnm ht (s1 := (sealedH ⟨y1, y2, y3, y4, y5, y6, y7⟩ ls ms).sum) (s2 := (sealedH ⟨y1, y2, y3, y4, y5, y6, y7⟩ ls ms).long) rfl)
  obtain ⟨xl, hxl⟩ : ∃ xl, xl = xs.length := ⟨_, rfl⟩
  obtain ⟨vl, hvl⟩ : ∃ vl, vl = vs.length := ⟨_, rfl⟩
  have HG := Lib.hid (fun W (hW : Below w.heap.size w W) => DbGet p b room M y2 y3 y4 W (h.keep hW) (h1 := h1) (h2 := h2) (h3 := h3) (h4 := h4) (h5 := h5) (h6 := h6) (h7 := h7) (ka := xa) (kc := xc) (ls := xs) (ma := va) (mc := vc) (ms := vs) (is := true) (by rw [hg]; rfl) (by rw [hg]; rfl) xl vl hxl hvl)
  have Hmn := Lib.hid hmn
  have Hag := Lib.hid (show _ ∧ _ ∧ _ ∧ _ from ⟨hy0, hy1, hh0, hh1⟩)
  have Hb1 := Lib.hid hb1
  have Hk1 := Lib.hid hk1
  obtain ⟨z0, z1, z2, z3, z4, z5, z6, z7, z8, zf⟩ := blk9 hk1
  clear hk1 hb1 hl hm hlm hmm hnl hnm ht hg h hmn hy0 hy1 hh0 hh1 hxl hvl
  go_enter Try.func17, Try.ntmps17
  go_upto_region 7 with (first
    | (go_at_call 63; (with_reducible refine Calls.mono HR.out ?_); rintro r w2 ⟨rfl, hb2⟩; obtain ⟨x0, x1, x2, x3, x4, x5, x6, x7, x8, xf⟩ := blk9 (Hk1.out.below hb2 Hk1.out.lt); have Hb2 := Lib.hid (below_trans Hb1.out Hb1.out.size hb2); have Hk2 := Lib.hid (Hk1.out.below hb2 Hk1.out.lt); clear hb2)
    | (go_at_call 20; (with_reducible refine Calls.mono (keyOf_any _ _ _ _ _ _ _ _) ?_); rintro r w3 ⟨rfl, hb3⟩; have Hb3 := Lib.hid (below_trans Hb2.out Hb2.out.size hb3); have Hk3 := Lib.hid (Hk2.out.below hb3 Hk2.out.lt); clear hb3)
    | (go_at_call 21; (with_reducible refine Calls.mono (HG.out _ Hb3.out) ?_); rintro r w4 ⟨Aa, ca, Ab, cb, rfl, -, -, hb4⟩; obtain ⟨w5, hw5⟩ : ∃ w5, w4.alloc (.cells #[.int .i64 h1, .int .i64 h2, .int .i64 h3, .int .i64 h4, .int .i64 h5, .int .i64 h6, .int .i64 h7, .slice Aa xl ca, .slice Ab vl cb] 27) = w5 := ⟨_, rfl⟩;
        have hb5 := below_new w4 (.cells #[.int .i64 h1, .int .i64 h2, .int .i64 h3, .int .i64 h4, .int .i64 h5, .int .i64 h6, .int .i64 h7, .slice Aa xl ca, .slice Ab vl cb] 27); rw [hw5] at hb5;
        have hq5 : Blk w5 w4.heap.size 27 #[.int .i64 h1, .int .i64 h2, .int .i64 h3, .int .i64 h4, .int .i64 h5, .int .i64 h6, .int .i64 h7, .slice Aa xl ca, .slice Ab vl cb] := hw5 ▸ Blk.new w4 _ _;
        have Hb5 := Lib.hid (below_trans (below_trans Hb3.out Hb3.out.size hb4) (below_trans Hb3.out Hb3.out.size hb4).size hb5);
        have hk5 := (Hk3.out.below hb4 Hk3.out.lt).below hb5 (Hk3.out.below hb4 Hk3.out.lt).lt;
        have FB := Lib.hid (fun W (hW : Below w5.heap.size w5 W) => (show _ ∧ _ from ⟨blk9 (hk5.below hW hk5.lt), blk9 (hq5.below hW hq5.lt)⟩));
        obtain ⟨q0, q1, q2, q3, q4, q5, q6, q7, q8, qf⟩ := blk9 hk5; obtain ⟨c0, c1, c2, c3, c4, c5, c6, c7, c8, cf⟩ := blk9 (Hk3.out.below hb4 Hk3.out.lt); clear hb4 hb5 hq5 hk5))
  refine wp_region_F (F := fun W => Below w5.heap.size w5 W) (n := 6) (m := 7) (s := #[false, false, false, false, false, false, false]) (by kernel_rfl) (by kernel_rfl) (by kernel_rfl) ?_
  intro wd hwd
  have hF : Below w5.heap.size w5 wd := by rw [hwd.out]; exact (Below.refl _ _).drew
  clear hwd
  refine F_take (i := 0) (d := some 38) (by kernel_rfl) (by kernel_rfl) (by decide) (s' := #[true, false, false, false, false, false, false]) (by kernel_rfl) rfl rfl (by kernel_rfl) (by kernel_rfl) (by kernel_rfl) (fun _ _ _ h => h) (Or.inl ⟨by kernel_rfl, fun W hW => by obtain ⟨⟨x0, x1, x2, x3, x4, x5, x6, x7, x8, -⟩, k0, k1, k2, k3, k4, k5, k6, -⟩ := FB.out W hW; go_simp; try with_reducible rfl⟩) hF ?_
  go_frame
  refine F_take (i := 3) (d := some 41) (by kernel_rfl) (by kernel_rfl) (by decide) (s' := #[true, false, false, true, false, false, false]) (by kernel_rfl) rfl rfl (by kernel_rfl) (by kernel_rfl) (by kernel_rfl) (fun _ _ _ h => h) (Or.inl ⟨by kernel_rfl, fun W hW => by obtain ⟨⟨x0, x1, x2, x3, x4, x5, x6, x7, x8, -⟩, k0, k1, k2, k3, k4, k5, k6, -⟩ := FB.out W hW; go_simp; try with_reducible rfl⟩) hF ?_
  go_frame
  refine F_take (i := 4) (d := some 42) (by kernel_rfl) (by kernel_rfl) (by decide) (s' := #[true, false, false, true, true, false, false]) (by kernel_rfl) rfl rfl (by kernel_rfl) (by kernel_rfl) (by kernel_rfl) (fun _ _ _ h => h) (Or.inl ⟨by kernel_rfl, fun W hW => by obtain ⟨⟨x0, x1, x2, x3, x4, x5, x6, x7, x8, -⟩, k0, k1, k2, k3, k4, k5, k6, -⟩ := FB.out W hW; go_simp; try with_reducible rfl⟩) hF ?_
  go_frame
  refine F_one (i := 1) (s' := #[true, true, false, true, true, false, false]) (by kernel_rfl) (by kernel_rfl) (wpOp_enterL (i := 1) (d := some 39) (f := 64) (args := #[.agg #[.int .i64 y1, .int .i64 y2, .int .i64 y3, .int .i64 y4, .int .i64 y5, .int .i64 y6, .int .i64 y7, .slice ka nl kc, .slice ma nm mc]]) rfl rfl (by kernel_rfl) (by go_simp) ((HS.out wd (below_trans Hb5.out Hb5.out.size hF)).mono ?_))
  rintro r v1w ⟨va', vb', rfl, oa, ob, hb8⟩
  obtain ⟨Ba, da, rfl⟩ := oa.shape
  obtain ⟨Bb, db, rfl⟩ := ob.shape
  clear oa ob
  have hF := below_trans hF hF.size hb8
  obtain ⟨n1, hn1⟩ : ∃ n, (sealedH ⟨y1, y2, y3, y4, y5, y6, y7⟩ ls ms).sum = n := ⟨_, rfl⟩
  obtain ⟨n2, hn2⟩ : ∃ n, (sealedH ⟨y1, y2, y3, y4, y5, y6, y7⟩ ls ms).long = n := ⟨_, rfl⟩
  have hmn' : newerI ⟨y1, y2, y3, y4, y5, n1, n2⟩ ⟨h1, h2, h3, h4, h5, h6, h7⟩ = m := by rw [← Hmn.out, ← hn1, ← hn2]; rfl
  refine ⟨_, rfl, fun _ => hF, ?_⟩
  rw [hn1, hn2]
  clear hn1 hn2 hb8
  go_frame
  have hfld : ∀ W, (Instr.field 27 (.agg #[.int .i64 y1, .int .i64 y2, .int .i64 y3, .int .i64 y4, .int .i64 y5, .int .i64 n1, .int .i64 n2, .slice Ba ls.length da, .slice Bb ms.length db]) 0).run Try.prog W = .ok (.agg #[.int .i64 y1, .int .i64 y2, .int .i64 y3, .int .i64 y4, .int .i64 y5, .int .i64 n1, .int .i64 n2]) W := fun W => by kernel_rfl
  refine F_take (i := 2) (d := some 40) (by kernel_rfl) (by kernel_rfl) (by decide) (s' := #[true, true, true, true, true, false, false]) (by kernel_rfl) rfl rfl (by kernel_rfl) (by kernel_rfl) (by kernel_rfl) (fun _ _ _ h => h) (Or.inl ⟨by kernel_rfl, fun W hW => by obtain ⟨⟨x0, x1, x2, x3, x4, x5, x6, x7, x8, -⟩, k0, k1, k2, k3, k4, k5, k6, -⟩ := FB.out W hW; go_simp; try with_reducible rfl⟩) hF ?_
  go_frame
  refine F_one (i := 5) (s' := #[true, true, true, true, true, true, false]) (by kernel_rfl) (by kernel_rfl) (wpOp_enterL (i := 5) (d := some 43) (f := 22) (args := #[.agg #[.int .i64 y1, .int .i64 y2, .int .i64 y3, .int .i64 y4, .int .i64 y5, .int .i64 n1, .int .i64 n2], .agg #[.int .i64 h1, .int .i64 h2, .int .i64 h3, .int .i64 h4, .int .i64 h5, .int .i64 h6, .int .i64 h7]]) rfl rfl (by kernel_rfl) (by go_simp) ((newer_any _ _ _ _ _ _ _ _ _ _ _ _ _ _ _ Hag.out.1 Hag.out.2.1 Hag.out.2.2.1 Hag.out.2.2.2 hmn').mono ?_))
  rintro r v5w ⟨rfl, hb9⟩
  have hF := below_trans hF hF.size hb9
  refine ⟨_, rfl, fun _ => hF, ?_⟩
  go_frame
  refine F_one (i := 6) (s' := #[true, true, true, true, true, true, true]) (by kernel_rfl) (by kernel_rfl) (wpOp_valueL (i := 6) (d := some 9) (w' := v5w) (v := .int .i64 m) rfl rfl (by kernel_rfl) (by go_simp) ⟨fun h => absurd h (by decide), ?_⟩)
  go_frame
  refine F_done (by kernel_rfl) ?_ _
  have Hb9 := Lib.hid (below_trans Hb5.out Hb5.out.size hF)
  obtain ⟨⟨s0, s1, s2, s3, s4, s5, s6, s7, s8, -⟩, -⟩ := FB.out _ hF
  clear hF hb9 hmn' q0 q1 q2 q3 q4 q5 q6 q7 q8 qf c0 c1 c2 c3 c4 c5 c6 c7 c8 cf
  have hc0 : ¬ m = 0 := by omega
  have hc1 : ¬ m < 0 := by omega
  go_wp2_with (go_at_call 34; (with_reducible refine Calls.mono (HP.out _ Hb9.out) ?_); rintro r w6 ⟨rfl, hd6, hg6⟩; have Hd6 := Lib.hid hd6; have Hg6 := Lib.hid (grown_trans (grown_below (World.grownBy.refl w (some b)) Hb9.out) hg6); clear hd6 hg6)
  go_ret
  exact ⟨rfl, Hd6.out.mono Hb9.out.size, Hg6.out⟩

end Go.Proofs.Ytmjjmkdjjfmhhaa

/-
  Layer 18: what a database makes of any description: the program's way.
-/
namespace Go.Proofs.Ytmjjmkdjjfmhhaa
open Go.RowKit

theorem busy_cases {busy : Bool} {y : Int} (h : busy = true ∨ y ≠ 60) : (busy = true ∧ y = 60) ∨ (busy = true ∧ y ≠ 60) ∨ (busy = false ∧ y ≠ 60) := by
  cases busy
  · rcases h with h | h
    · cases h
    · exact .inr (.inr ⟨rfl, h⟩)
  · by_cases h2 : y = 60
    · exact .inl ⟨rfl, h2⟩
    · exact .inr (.inl ⟨rfl, h2⟩)
set_option maxHeartbeats 8000000 in
set_option maxRecDepth 100000 in
theorem Take_bad (p : Nat) (y1 y2 y3 y4 y5 y6 y7 : Int) (ka : Option Addr) (kc : Nat) (ls : List Lnk) (ma : Option Addr) (mc : Nat) (ms : List Int) (w : World) (hl : RowsAt 4 Lnk.cells w w.heap.size ka ls) (hm : RowsAt 1 icell w w.heap.size ma ms) (hlm : ls.length ≤ maxLen) (hmm : ms.length ≤ maxLen) (nl nm : Nat) (hnl : nl = ls.length) (hnm : nm = ms.length)
    (ht : rightB ⟨⟨y1, y2, y3, y4, y5, y6, y7⟩, ka, kc, ls, ma, mc, ms⟩ = false) (busy : Bool) :
    Calls Try.prog 17 #[.pointer (some ⟨p, 0, none⟩), .agg #[.int .i64 y1, .int .i64 y2, .int .i64 y3, .int .i64 y4, .int .i64 y5, .int .i64 y6, .int .i64 y7, .slice ka nl kc, .slice ma nm mc], .bool busy] w fun r w' => r = .returned (.int .i64 0) ∧ Below w.heap.size w w' := by
  obtain ⟨w1, hW1⟩ : ∃ w1, w.alloc (.cells #[.int .i64 y1, .int .i64 y2, .int .i64 y3, .int .i64 y4, .int .i64 y5, .int .i64 y6, .int .i64 y7, .slice ka nl kc, .slice ma nm mc] 27) = w1 := ⟨_, rfl⟩
  have hk1 := Blk.new w 27 #[.int .i64 y1, .int .i64 y2, .int .i64 y3, .int .i64 y4, .int .i64 y5, .int .i64 y6, .int .i64 y7, .slice ka nl kc, .slice ma nm mc]
  have hb1 := below_new w (.cells #[.int .i64 y1, .int .i64 y2, .int .i64 y3, .int .i64 y4, .int .i64 y5, .int .i64 y6, .int .i64 y7, .slice ka nl kc, .slice ma nm mc] 27)
  rw [hW1] at hk1 hb1
  have HR := Lib.hid (lsaRight_any y1 y2 y3 y4 y5 y6 y7 ka kc ls ma mc ms w1 w1.heap.size (rows_keep hl hb1) (rows_keep hm hb1) (Nat.le_refl _) hlm hmm nl nm hnl hnm ht)
  have Hb1 := Lib.hid hb1
  have Hk1 := Lib.hid hk1
  obtain ⟨z0, z1, z2, z3, z4, z5, z6, z7, z8, zf⟩ := blk9 hk1
  clear hk1 hb1 hl hm hlm hmm hnl hnm ht
  all_goals
    go_enter Try.func17, Try.ntmps17
    go_wp2_with (first
      | (go_at_call 63; (with_reducible refine Calls.mono HR.out ?_); rintro r w2 ⟨rfl, hb2⟩; obtain ⟨x0, x1, x2, x3, x4, x5, x6, x7, x8, xf⟩ := blk9 (Hk1.out.below hb2 Hk1.out.lt); have Hb2 := Lib.hid (below_trans Hb1.out Hb1.out.size hb2); have Hk2 := Lib.hid (Hk1.out.below hb2 Hk1.out.lt); clear hb2)
      | fail)
    go_ret
    exact ⟨rfl, Hb2.out⟩


set_option maxHeartbeats 8000000 in
set_option maxRecDepth 100000 in
theorem Take_gone (p b : Nat) (room : Int) (M : List Lsa) (y2 y3 y4 y5 y6 y7 : Int) (ka : Option Addr) (kc : Nat) (ls : List Lnk) (ma : Option Addr) (mc : Nat) (ms : List Int) (w : World) (h : DbAt w p b room M) (hl : RowsAt 4 Lnk.cells w w.heap.size ka ls) (hm : RowsAt 1 icell w w.heap.size ma ms) (hlm : ls.length ≤ 1000) (hmm : ms.length ≤ 1000) (nl nm : Nat) (hnl : nl = ls.length) (hnm : nm = ms.length)
    (ht : rightB ⟨⟨60, y2, y3, y4, y5, y6, y7⟩, ka, kc, ls, ma, mc, ms⟩ = true) (hg : getX ⟨y2, y3, y4⟩ M = none) :
    Calls Try.prog 17 #[.pointer (some ⟨p, 0, none⟩), .agg #[.int .i64 60, .int .i64 y2, .int .i64 y3, .int .i64 y4, .int .i64 y5, .int .i64 y6, .int .i64 y7, .slice ka nl kc, .slice ma nm mc], .bool false] w fun r w' => r = .returned (.int .i64 1) ∧ Below w.heap.size w w' := by
  obtain ⟨w1, hW1⟩ : ∃ w1, w.alloc (.cells #[.int .i64 60, .int .i64 y2, .int .i64 y3, .int .i64 y4, .int .i64 y5, .int .i64 y6, .int .i64 y7, .slice ka nl kc, .slice ma nm mc] 27) = w1 := ⟨_, rfl⟩
  have hk1 := Blk.new w 27 #[.int .i64 60, .int .i64 y2, .int .i64 y3, .int .i64 y4, .int .i64 y5, .int .i64 y6, .int .i64 y7, .slice ka nl kc, .slice ma nm mc]
  have hb1 := below_new w (.cells #[.int .i64 60, .int .i64 y2, .int .i64 y3, .int .i64 y4, .int .i64 y5, .int .i64 y6, .int .i64 y7, .slice ka nl kc, .slice ma nm mc] 27)
  rw [hW1] at hk1 hb1
  have HR := Lib.hid (lsaRight_any 60 y2 y3 y4 y5 y6 y7 ka kc ls ma mc ms w1 w1.heap.size (rows_keep hl hb1) (rows_keep hm hb1) (Nat.le_refl _) (by unfold maxLen; omega) (by unfold maxLen; omega) nl nm hnl hnm ht)
  have HG := Lib.hid (fun W (hW : Below w.heap.size w W) => DbGet p b room M y2 y3 y4 W (h.keep hW) (h1 := 0) (h2 := 0) (h3 := 0) (h4 := 0) (h5 := 0) (h6 := 0) (h7 := 0) (ka := none) (kc := 0) (ls := []) (ma := none) (mc := 0) (ms := []) (is := false) (by rw [hg]; rfl) (by rw [hg]; rfl) 0 0 rfl rfl)
  have Hb1 := Lib.hid hb1
  have Hk1 := Lib.hid hk1
  obtain ⟨z0, z1, z2, z3, z4, z5, z6, z7, z8, zf⟩ := blk9 hk1
  clear hk1 hb1 hl hm hlm hmm hnl hnm ht hg h
  all_goals
    go_enter Try.func17, Try.ntmps17
    go_wp2_with (first
      | (go_at_call 63; (with_reducible refine Calls.mono HR.out ?_); rintro r w2 ⟨rfl, hb2⟩; obtain ⟨x0, x1, x2, x3, x4, x5, x6, x7, x8, xf⟩ := blk9 (Hk1.out.below hb2 Hk1.out.lt); have Hb2 := Lib.hid (below_trans Hb1.out Hb1.out.size hb2); have Hk2 := Lib.hid (Hk1.out.below hb2 Hk1.out.lt); clear hb2)
      | (go_at_call 20; (with_reducible refine Calls.mono (keyOf_any _ _ _ _ _ _ _ _) ?_); rintro r w3 ⟨rfl, hb3⟩; have Hb3 := Lib.hid (below_trans Hb2.out Hb2.out.size hb3); have Hk3 := Lib.hid (Hk2.out.below hb3 Hk2.out.lt); clear hb3)
      | (go_at_call 21; (with_reducible refine Calls.mono (HG.out _ Hb3.out) ?_); rintro r w4 ⟨Aa, ca, Ab, cb, rfl, -, -, hb4⟩; obtain ⟨w5, hw5⟩ : ∃ w5, w4.alloc (.cells #[.int .i64 0, .int .i64 0, .int .i64 0, .int .i64 0, .int .i64 0, .int .i64 0, .int .i64 0, .slice Aa 0 ca, .slice Ab 0 cb] 27) = w5 := ⟨_, rfl⟩;
          have hb5 := below_new w4 (.cells #[.int .i64 0, .int .i64 0, .int .i64 0, .int .i64 0, .int .i64 0, .int .i64 0, .int .i64 0, .slice Aa 0 ca, .slice Ab 0 cb] 27); rw [hw5] at hb5;
          have Hb5 := Lib.hid (below_trans (below_trans Hb3.out Hb3.out.size hb4) (below_trans Hb3.out Hb3.out.size hb4).size hb5);
          obtain ⟨q0, q1, q2, q3, q4, q5, q6, q7, q8, qf⟩ := blk9 ((Hk3.out.below hb4 Hk3.out.lt).below hb5 (Hk3.out.below hb4 Hk3.out.lt).lt); obtain ⟨c0, c1, c2, c3, c4, c5, c6, c7, c8, cf⟩ := blk9 (Hk3.out.below hb4 Hk3.out.lt); clear hb4 hb5)
      | fail)
    go_ret
    exact ⟨rfl, Hb5.out⟩


set_option maxHeartbeats 8000000 in
set_option maxRecDepth 100000 in
theorem Take_full (p b : Nat) (room : Int) (M : List Lsa) (y1 y2 y3 y4 y5 y6 y7 : Int) (ka : Option Addr) (kc : Nat) (ls : List Lnk) (ma : Option Addr) (mc : Nat) (ms : List Int) (w : World) (h : DbAt w p b room M) (hl : RowsAt 4 Lnk.cells w w.heap.size ka ls) (hm : RowsAt 1 icell w w.heap.size ma ms) (hlm : ls.length ≤ 1000) (hmm : ms.length ≤ 1000) (nl nm : Nat) (hnl : nl = ls.length) (hnm : nm = ms.length)
    (ht : rightB ⟨⟨y1, y2, y3, y4, y5, y6, y7⟩, ka, kc, ls, ma, mc, ms⟩ = true) (hg : getX ⟨y2, y3, y4⟩ M = none) (hroom : (M.length : Int) = room) (busy : Bool) (hby : busy = true ∨ y1 ≠ 60) :
    Calls Try.prog 17 #[.pointer (some ⟨p, 0, none⟩), .agg #[.int .i64 y1, .int .i64 y2, .int .i64 y3, .int .i64 y4, .int .i64 y5, .int .i64 y6, .int .i64 y7, .slice ka nl kc, .slice ma nm mc], .bool busy] w fun r w' => r = .returned (.int .i64 0) ∧ Below w.heap.size w w' := by
  obtain ⟨w1, hW1⟩ : ∃ w1, w.alloc (.cells #[.int .i64 y1, .int .i64 y2, .int .i64 y3, .int .i64 y4, .int .i64 y5, .int .i64 y6, .int .i64 y7, .slice ka nl kc, .slice ma nm mc] 27) = w1 := ⟨_, rfl⟩
  have hk1 := Blk.new w 27 #[.int .i64 y1, .int .i64 y2, .int .i64 y3, .int .i64 y4, .int .i64 y5, .int .i64 y6, .int .i64 y7, .slice ka nl kc, .slice ma nm mc]
  have hb1 := below_new w (.cells #[.int .i64 y1, .int .i64 y2, .int .i64 y3, .int .i64 y4, .int .i64 y5, .int .i64 y6, .int .i64 y7, .slice ka nl kc, .slice ma nm mc] 27)
  rw [hW1] at hk1 hb1
  have HR := Lib.hid (lsaRight_any y1 y2 y3 y4 y5 y6 y7 ka kc ls ma mc ms w1 w1.heap.size (rows_keep hl hb1) (rows_keep hm hb1) (Nat.le_refl _) (by unfold maxLen; omega) (by unfold maxLen; omega) nl nm hnl hnm ht)
  have HP := Lib.hid (fun W (hW : Below w.heap.size w W) => DbPut_full p b room M y1 y2 y3 y4 y5 y6 y7 ka kc ls ma mc ms W (h.keep hW) (rows_keep hl hW) (rows_keep hm hW) hlm hmm nl nm hnl hnm ht (by rw [hg]; rfl) hroom)
  have HG := Lib.hid (fun W (hW : Below w.heap.size w W) => DbGet p b room M y2 y3 y4 W (h.keep hW) (h1 := 0) (h2 := 0) (h3 := 0) (h4 := 0) (h5 := 0) (h6 := 0) (h7 := 0) (ka := none) (kc := 0) (ls := []) (ma := none) (mc := 0) (ms := []) (is := false) (by rw [hg]; rfl) (by rw [hg]; rfl) 0 0 rfl rfl)
  have Hb1 := Lib.hid hb1
  have Hk1 := Lib.hid hk1
  obtain ⟨z0, z1, z2, z3, z4, z5, z6, z7, z8, zf⟩ := blk9 hk1
  clear hk1 hb1 hl hm hlm hmm hnl hnm ht hg hroom h
  have hbc := busy_cases hby
  clear hby
  rcases hbc with ⟨rfl, rfl⟩ | ⟨rfl, hy60⟩ | ⟨rfl, hy60⟩
  all_goals
    go_enter Try.func17, Try.ntmps17
    go_wp2_with (first
      | (go_at_call 63; (with_reducible refine Calls.mono HR.out ?_); rintro r w2 ⟨rfl, hb2⟩; obtain ⟨x0, x1, x2, x3, x4, x5, x6, x7, x8, xf⟩ := blk9 (Hk1.out.below hb2 Hk1.out.lt); have Hb2 := Lib.hid (below_trans Hb1.out Hb1.out.size hb2); have Hk2 := Lib.hid (Hk1.out.below hb2 Hk1.out.lt); clear hb2)
      | (go_at_call 20; (with_reducible refine Calls.mono (keyOf_any _ _ _ _ _ _ _ _) ?_); rintro r w3 ⟨rfl, hb3⟩; have Hb3 := Lib.hid (below_trans Hb2.out Hb2.out.size hb3); have Hk3 := Lib.hid (Hk2.out.below hb3 Hk2.out.lt); clear hb3)
      | (go_at_call 21; (with_reducible refine Calls.mono (HG.out _ Hb3.out) ?_); rintro r w4 ⟨Aa, ca, Ab, cb, rfl, -, -, hb4⟩; obtain ⟨w5, hw5⟩ : ∃ w5, w4.alloc (.cells #[.int .i64 0, .int .i64 0, .int .i64 0, .int .i64 0, .int .i64 0, .int .i64 0, .int .i64 0, .slice Aa 0 ca, .slice Ab 0 cb] 27) = w5 := ⟨_, rfl⟩;
          have hb5 := below_new w4 (.cells #[.int .i64 0, .int .i64 0, .int .i64 0, .int .i64 0, .int .i64 0, .int .i64 0, .int .i64 0, .slice Aa 0 ca, .slice Ab 0 cb] 27); rw [hw5] at hb5;
          have Hb5 := Lib.hid (below_trans (below_trans Hb3.out Hb3.out.size hb4) (below_trans Hb3.out Hb3.out.size hb4).size hb5);
          obtain ⟨q0, q1, q2, q3, q4, q5, q6, q7, q8, qf⟩ := blk9 ((Hk3.out.below hb4 Hk3.out.lt).below hb5 (Hk3.out.below hb4 Hk3.out.lt).lt); obtain ⟨c0, c1, c2, c3, c4, c5, c6, c7, c8, cf⟩ := blk9 (Hk3.out.below hb4 Hk3.out.lt); clear hb4 hb5)
      | (go_at_call 34; (with_reducible refine Calls.mono (HP.out _ Hb5.out) ?_); rintro r w6 ⟨rfl, hb6⟩; have Hb6 := Lib.hid (below_trans Hb5.out Hb5.out.size hb6); clear hb6)
      | fail)
    go_ret
    exact ⟨rfl, Hb6.out⟩


set_option maxHeartbeats 8000000 in
set_option maxRecDepth 100000 in
theorem Take_put (p b : Nat) (room : Int) (M : List Lsa) (y1 y2 y3 y4 y5 y6 y7 : Int) (ka : Option Addr) (kc : Nat) (ls : List Lnk) (ma : Option Addr) (mc : Nat) (ms : List Int) (w : World) (h : DbAt w p b room M) (hl : RowsAt 4 Lnk.cells w w.heap.size ka ls) (hm : RowsAt 1 icell w w.heap.size ma ms) (hlm : ls.length ≤ 1000) (hmm : ms.length ≤ 1000) (nl nm : Nat) (hnl : nl = ls.length) (hnm : nm = ms.length)
    (ht : rightB ⟨⟨y1, y2, y3, y4, y5, y6, y7⟩, ka, kc, ls, ma, mc, ms⟩ = true) (hg : getX ⟨y2, y3, y4⟩ M = none) (hroom : (M.length : Int) ≠ room) (busy : Bool) (hby : busy = true ∨ y1 ≠ 60) :
    Calls Try.prog 17 #[.pointer (some ⟨p, 0, none⟩), .agg #[.int .i64 y1, .int .i64 y2, .int .i64 y3, .int .i64 y4, .int .i64 y5, .int .i64 y6, .int .i64 y7, .slice ka nl kc, .slice ma nm mc], .bool busy] w fun r w' => r = .returned (.int .i64 2) ∧ PutTo w.heap.size w' p b room ⟨y1, y2, y3, y4, y5, y6, y7⟩ ls ms M ∧ w.grownBy w' (some b) := by
  obtain ⟨w1, hW1⟩ : ∃ w1, w.alloc (.cells #[.int .i64 y1, .int .i64 y2, .int .i64 y3, .int .i64 y4, .int .i64 y5, .int .i64 y6, .int .i64 y7, .slice ka nl kc, .slice ma nm mc] 27) = w1 := ⟨_, rfl⟩
  have hk1 := Blk.new w 27 #[.int .i64 y1, .int .i64 y2, .int .i64 y3, .int .i64 y4, .int .i64 y5, .int .i64 y6, .int .i64 y7, .slice ka nl kc, .slice ma nm mc]
  have hb1 := below_new w (.cells #[.int .i64 y1, .int .i64 y2, .int .i64 y3, .int .i64 y4, .int .i64 y5, .int .i64 y6, .int .i64 y7, .slice ka nl kc, .slice ma nm mc] 27)
  rw [hW1] at hk1 hb1
  have HR := Lib.hid (lsaRight_any y1 y2 y3 y4 y5 y6 y7 ka kc ls ma mc ms w1 w1.heap.size (rows_keep hl hb1) (rows_keep hm hb1) (Nat.le_refl _) (by unfold maxLen; omega) (by unfold maxLen; omega) nl nm hnl hnm ht)
  have HP := Lib.hid (fun W (hW : Below w.heap.size w W) => DbPut_ok p b room M y1 y2 y3 y4 y5 y6 y7 ka kc ls ma mc ms W (h.keep hW) (rows_keep hl hW) (rows_keep hm hW) hlm hmm nl nm hnl hnm ht (is := false) (by rw [hg]; rfl) (.inr hroom))
  have HG := Lib.hid (fun W (hW : Below w.heap.size w W) => DbGet p b room M y2 y3 y4 W (h.keep hW) (h1 := 0) (h2 := 0) (h3 := 0) (h4 := 0) (h5 := 0) (h6 := 0) (h7 := 0) (ka := none) (kc := 0) (ls := []) (ma := none) (mc := 0) (ms := []) (is := false) (by rw [hg]; rfl) (by rw [hg]; rfl) 0 0 rfl rfl)
  have Hb1 := Lib.hid hb1
  have Hk1 := Lib.hid hk1
  obtain ⟨z0, z1, z2, z3, z4, z5, z6, z7, z8, zf⟩ := blk9 hk1
  clear hk1 hb1 hl hm hlm hmm hnl hnm ht hg hroom h
  have hbc := busy_cases hby
  clear hby
  rcases hbc with ⟨rfl, rfl⟩ | ⟨rfl, hy60⟩ | ⟨rfl, hy60⟩
  all_goals
    go_enter Try.func17, Try.ntmps17
    go_wp2_with (first
      | (go_at_call 63; (with_reducible refine Calls.mono HR.out ?_); rintro r w2 ⟨rfl, hb2⟩; obtain ⟨x0, x1, x2, x3, x4, x5, x6, x7, x8, xf⟩ := blk9 (Hk1.out.below hb2 Hk1.out.lt); have Hb2 := Lib.hid (below_trans Hb1.out Hb1.out.size hb2); have Hk2 := Lib.hid (Hk1.out.below hb2 Hk1.out.lt); clear hb2)
      | (go_at_call 20; (with_reducible refine Calls.mono (keyOf_any _ _ _ _ _ _ _ _) ?_); rintro r w3 ⟨rfl, hb3⟩; have Hb3 := Lib.hid (below_trans Hb2.out Hb2.out.size hb3); have Hk3 := Lib.hid (Hk2.out.below hb3 Hk2.out.lt); clear hb3)
      | (go_at_call 21; (with_reducible refine Calls.mono (HG.out _ Hb3.out) ?_); rintro r w4 ⟨Aa, ca, Ab, cb, rfl, -, -, hb4⟩; obtain ⟨w5, hw5⟩ : ∃ w5, w4.alloc (.cells #[.int .i64 0, .int .i64 0, .int .i64 0, .int .i64 0, .int .i64 0, .int .i64 0, .int .i64 0, .slice Aa 0 ca, .slice Ab 0 cb] 27) = w5 := ⟨_, rfl⟩;
          have hb5 := below_new w4 (.cells #[.int .i64 0, .int .i64 0, .int .i64 0, .int .i64 0, .int .i64 0, .int .i64 0, .int .i64 0, .slice Aa 0 ca, .slice Ab 0 cb] 27); rw [hw5] at hb5;
          have Hb5 := Lib.hid (below_trans (below_trans Hb3.out Hb3.out.size hb4) (below_trans Hb3.out Hb3.out.size hb4).size hb5);
          obtain ⟨q0, q1, q2, q3, q4, q5, q6, q7, q8, qf⟩ := blk9 ((Hk3.out.below hb4 Hk3.out.lt).below hb5 (Hk3.out.below hb4 Hk3.out.lt).lt); obtain ⟨c0, c1, c2, c3, c4, c5, c6, c7, c8, cf⟩ := blk9 (Hk3.out.below hb4 Hk3.out.lt); clear hb4 hb5)
      | (go_at_call 34; (with_reducible refine Calls.mono (HP.out _ Hb5.out) ?_); rintro r w6 ⟨rfl, hd6, hg6⟩; have Hd6 := Lib.hid hd6; have Hg6 := Lib.hid (grown_trans (grown_below (World.grownBy.refl w (some b)) Hb5.out) hg6); clear hd6 hg6)
      | fail)
    go_ret
    exact ⟨rfl, Hd6.out.mono Hb5.out.size, Hg6.out⟩


/-- what is made of a description -/
def takeN (room : Int) (M : List Lsa) (x : Lsa) (busy : Bool) : Int :=
  if rightB x = true then
    match getX (keyH x.head) M with
    | none => if x.head.age = 60 ∧ busy = false then 1 else if (M.length : Int) = room then 0 else 2
    | some y => if newerI (sealedH x.head x.links x.members) y.head = 0 then 3 else if newerI (sealedH x.head x.links x.members) y.head < 0 then 4 else 2
  else 0
/-- .. and what is had behind it -/
def TookTo (B : Nat) (M : List Lsa) (x : Lsa) (n : Int) (M' : List Lsa) : Prop :=
  (n = 2 ∧ ∃ Aa ca Ab cb, (∀ a, Aa = some a → B ≤ a.block) ∧ (∀ a, Ab = some a → B ≤ a.block) ∧ M' = setX ⟨sealedH x.head x.links x.members, Aa, ca, x.links, Ab, cb, x.members⟩ M) ∨ (n ≠ 2 ∧ M' = M)
def agesX (M : List Lsa) : Prop := ∀ y ∈ M, 0 ≤ y.head.age ∧ y.head.age ≤ 60
theorem right_age {h : Hd} {ka : Option Addr} {kc : Nat} {ls : List Lnk} {ma : Option Addr} {mc : Nat} {ms : List Int} (hr : rightB ⟨h, ka, kc, ls, ma, mc, ms⟩ = true) : 0 ≤ h.age ∧ h.age ≤ 60 := by
  unfold rightB at hr
  rw [Bool.and_eq_true] at hr
  have h1 := hr.1
  unfold headB at h1
  simp only [Bool.and_eq_true, inB_iff] at h1
  exact h1.1.1.1
theorem below_grow {w w' : World} {b : Nat} (h : Below w.heap.size w w') : w.grownBy w' (some b) := grown_below (World.grownBy.refl w (some b)) h
theorem Take_any (p b : Nat) (room : Int) (M : List Lsa) (y1 y2 y3 y4 y5 y6 y7 : Int) (ka : Option Addr) (kc : Nat) (ls : List Lnk) (ma : Option Addr) (mc : Nat) (ms : List Int) (w : World) (h : DbAt w p b room M) (hl : RowsAt 4 Lnk.cells w w.heap.size ka ls) (hm : RowsAt 1 icell w w.heap.size ma ms) (hlm : ls.length ≤ 1000) (hmm : ms.length ≤ 1000) (nl nm : Nat) (hnl : nl = ls.length) (hnm : nm = ms.length) (hages : agesX M) (busy : Bool) {n : Int} (hn : takeN room M ⟨⟨y1, y2, y3, y4, y5, y6, y7⟩, ka, kc, ls, ma, mc, ms⟩ busy = n) :
    Calls Try.prog 17 #[.pointer (some ⟨p, 0, none⟩), .agg #[.int .i64 y1, .int .i64 y2, .int .i64 y3, .int .i64 y4, .int .i64 y5, .int .i64 y6, .int .i64 y7, .slice ka nl kc, .slice ma nm mc], .bool busy] w fun r w' => r = .returned (.int .i64 n) ∧ (∃ M', TookTo w.heap.size M ⟨⟨y1, y2, y3, y4, y5, y6, y7⟩, ka, kc, ls, ma, mc, ms⟩ n M' ∧ DbAt w' p b room M') ∧ w.grownBy w' (some b) := by
  unfold takeN at hn
  by_cases ht : rightB ⟨⟨y1, y2, y3, y4, y5, y6, y7⟩, ka, kc, ls, ma, mc, ms⟩ = true
  · rw [if_pos ht] at hn
    have hag := right_age ht
    simp only at hag
    cases hg : getX ⟨y2, y3, y4⟩ M with
    | none =>
      rw [show getX (keyH (⟨⟨y1, y2, y3, y4, y5, y6, y7⟩, ka, kc, ls, ma, mc, ms⟩ : Lsa).head) M = none from hg] at hn
      simp only at hn
      by_cases h1 : y1 = 60 ∧ busy = false
      · rw [if_pos h1] at hn
        obtain ⟨rfl, rfl⟩ := h1
        subst hn
        refine (Take_gone p b room M y2 y3 y4 y5 y6 y7 ka kc ls ma mc ms w h hl hm hlm hmm nl nm hnl hnm ht hg).mono ?_
        rintro r w' ⟨rfl, hb⟩
        exact ⟨rfl, ⟨M, .inr ⟨by decide, rfl⟩, h.keep hb⟩, below_grow hb⟩
      · rw [if_neg h1] at hn
        have hby : busy = true ∨ y1 ≠ 60 := by
          cases busy
          · exact .inr (fun e => h1 ⟨e, rfl⟩)
          · exact .inl rfl
        by_cases h2 : (M.length : Int) = room
        · rw [if_pos h2] at hn
          subst hn
          refine (Take_full p b room M y1 y2 y3 y4 y5 y6 y7 ka kc ls ma mc ms w h hl hm hlm hmm nl nm hnl hnm ht hg h2 busy hby).mono ?_
          rintro r w' ⟨rfl, hb⟩
          exact ⟨rfl, ⟨M, .inr ⟨by decide, rfl⟩, h.keep hb⟩, below_grow hb⟩
        · rw [if_neg h2] at hn
          subst hn
          refine (Take_put p b room M y1 y2 y3 y4 y5 y6 y7 ka kc ls ma mc ms w h hl hm hlm hmm nl nm hnl hnm ht hg h2 busy hby).mono ?_
          rintro r w' ⟨rfl, ⟨Aa, ca, Ab, cb, hfa, hfb, hd⟩, hgr⟩
          exact ⟨rfl, ⟨_, .inl ⟨rfl, Aa, ca, Ab, cb, hfa, hfb, rfl⟩, hd⟩, hgr⟩
    | some y =>
      rw [show getX (keyH (⟨⟨y1, y2, y3, y4, y5, y6, y7⟩, ka, kc, ls, ma, mc, ms⟩ : Lsa).head) M = some y from hg] at hn
      simp only at hn
      have hya := hages y (getX_mem hg).1
      obtain ⟨⟨h1, h2, h3, h4, h5, h6, h7⟩, xa, xc, xs, va, vc, vs⟩ := y
      simp only at hya hn
      obtain ⟨m, hm'⟩ : ∃ m, newerI (sealedH ⟨y1, y2, y3, y4, y5, y6, y7⟩ ls ms) ⟨h1, h2, h3, h4, h5, h6, h7⟩ = m := ⟨_, rfl⟩
      rw [hm'] at hn
      by_cases c1 : m = 0
      · rw [if_pos c1] at hn
        subst hn
        refine (Take_same p b room M y1 y2 y3 y4 y5 y6 y7 ka kc ls ma mc ms w h hl hm hlm hmm nl nm hnl hnm ht hg hag.1 hag.2 hya.1 hya.2 hm' c1 busy).mono ?_
        rintro r w' ⟨rfl, hb⟩
        exact ⟨rfl, ⟨M, .inr ⟨by decide, rfl⟩, h.keep hb⟩, below_grow hb⟩
      · rw [if_neg c1] at hn
        by_cases c2 : m < 0
        · rw [if_pos c2] at hn
          subst hn
          refine (Take_old p b room M y1 y2 y3 y4 y5 y6 y7 ka kc ls ma mc ms w h hl hm hlm hmm nl nm hnl hnm ht hg hag.1 hag.2 hya.1 hya.2 hm' c2 busy).mono ?_
          rintro r w' ⟨rfl, hb⟩
          exact ⟨rfl, ⟨M, .inr ⟨by decide, rfl⟩, h.keep hb⟩, below_grow hb⟩
        · rw [if_neg c2] at hn
          subst hn
          refine (Take_new p b room M y1 y2 y3 y4 y5 y6 y7 ka kc ls ma mc ms w h hl hm hlm hmm nl nm hnl hnm ht hg hag.1 hag.2 hya.1 hya.2 hm' (by omega) busy).mono ?_
          rintro r w' ⟨rfl, ⟨Aa, ca, Ab, cb, hfa, hfb, hd⟩, hgr⟩
          exact ⟨rfl, ⟨_, .inl ⟨rfl, Aa, ca, Ab, cb, hfa, hfb, rfl⟩, hd⟩, hgr⟩
  · rw [if_neg ht] at hn
    subst hn
    refine (Take_bad p y1 y2 y3 y4 y5 y6 y7 ka kc ls ma mc ms w hl hm (by unfold maxLen; omega) (by unfold maxLen; omega) nl nm hnl hnm (by simpa using ht) busy).mono ?_
    rintro r w' ⟨rfl, hb⟩
    exact ⟨rfl, ⟨M, .inr ⟨by decide, rfl⟩, h.keep hb⟩, below_grow hb⟩

end Go.Proofs.Ytmjjmkdjjfmhhaa

/-
  Which head is newer, in plain words: one of two is, and what follows what is newer is.
-/
namespace Go.Proofs.Ytmjjmkdjjfmhhaa

/-- by ages alone -/
def ageI (x y : Int) : Int := if x = 60 ∧ y ≠ 60 then 1 else if y = 60 ∧ x ≠ 60 then -1 else if y + 6 < x then -1 else if x + 6 < y then 1 else 0
theorem ageI_is (x y : Int) : orL [cmpI (goneI x) (goneI y), youngI x y] = ageI x y := by
  unfold ageI
  by_cases h1 : x = 60 <;> by_cases h2 : y = 60
  · subst h1 h2; rfl
  · subst h1
    rw [if_pos ⟨rfl, h2⟩]
    simp [goneI, h2, cmpI, orL]
  · subst h2
    rw [if_neg (by simp [h1]), if_pos ⟨rfl, h1⟩]
    simp [goneI, h1, cmpI, orL]
  · rw [if_neg (by simp [h1]), if_neg (by simp [h2])]
    have e : cmpI (goneI x) (goneI y) = 0 := by simp [goneI, h1, h2, cmpI]
    have e2 : orL [cmpI (goneI x) (goneI y), youngI x y] = youngI x y := by
      rw [e]
      unfold orL
      rw [if_pos rfl]
      unfold orL
      split
      · rename_i h; rw [h]; rfl
      · rfl
    rw [e2]
    unfold youngI cmpI
    by_cases h3 : y + 6 < x
    · rw [if_pos (.inl h3), if_pos (by omega), if_pos h3]
    · by_cases h4 : x + 6 < y
      · rw [if_pos (.inr h4), if_neg (by omega), if_pos (by omega), if_neg h3, if_pos h4]
      · rw [if_neg (by omega), if_neg h3, if_neg h4]
theorem newer_cases3 (a b : Hd) : (a.seq < b.seq ∧ newerI a b = -1) ∨ (b.seq < a.seq ∧ newerI a b = 1) ∨ (a.seq = b.seq ∧ a.sum < b.sum ∧ newerI a b = -1) ∨ (a.seq = b.seq ∧ b.sum < a.sum ∧ newerI a b = 1) ∨ (a.seq = b.seq ∧ a.sum = b.sum ∧ newerI a b = ageI a.age b.age) := by
  unfold newerI
  rcases cmpI_cases a.seq b.seq with ⟨h, e⟩ | ⟨h0, h, e⟩ | ⟨h0, h, e⟩
  · exact .inl ⟨h, by rw [e]; rfl⟩
  · exact .inr (.inl ⟨h, by rw [e]; rfl⟩)
  · have h2 : a.seq = b.seq := by omega
    rcases cmpI_cases a.sum b.sum with ⟨h, e'⟩ | ⟨h0, h, e'⟩ | ⟨h0, h, e'⟩
    · exact .inr (.inr (.inl ⟨h2, h, by rw [e, e']; rfl⟩))
    · exact .inr (.inr (.inr (.inl ⟨h2, h, by rw [e, e']; rfl⟩)))
    · refine .inr (.inr (.inr (.inr ⟨h2, by omega, ?_⟩)))
      rw [e, e', ← ageI_is]
      rfl
theorem ageI_anti (x y : Int) : ageI y x = - ageI x y := by
  unfold ageI
  repeat' split
  all_goals omega
theorem newer_anti (a b : Hd) : newerI b a = - newerI a b := by
  have h := ageI_anti a.age b.age
  rcases newer_cases3 a b with h1 | h1 | h1 | h1 | h1 <;> rcases newer_cases3 b a with h2 | h2 | h2 | h2 | h2 <;> omega
theorem ageI_trans {x y z : Int} (hx : 0 ≤ x ∧ x ≤ 60) (hy : 0 ≤ y ∧ y ≤ 60) (hz : 0 ≤ z ∧ z ≤ 60) (h1 : 0 ≤ ageI y x) (h2 : 0 < ageI z y) : 0 ≤ ageI z x := by
  unfold ageI at *
  repeat' split at h1
  all_goals repeat' split at h2
  all_goals repeat' split
  all_goals omega
theorem newer_trans {x y z : Hd} (hx : 0 ≤ x.age ∧ x.age ≤ 60) (hy : 0 ≤ y.age ∧ y.age ≤ 60) (hz : 0 ≤ z.age ∧ z.age ≤ 60) (h1 : 0 ≤ newerI y x) (h2 : 0 < newerI z y) : 0 ≤ newerI z x := by
  have ht := fun a b => ageI_trans (x := x.age) (y := y.age) (z := z.age) hx hy hz a b
  rcases newer_cases3 y x with c1 | c1 | c1 | c1 | c1 <;> rcases newer_cases3 z y with c2 | c2 | c2 | c2 | c2 <;> rcases newer_cases3 z x with c3 | c3 | c3 | c3 | c3 <;> first | omega | (rw [c3.2.2]; exact ht (by omega) (by omega))
theorem newer_self3 (h : Hd) : newerI h h = 0 := by have := newer_anti h h; omega

end Go.Proofs.Ytmjjmkdjjfmhhaa

/-
  Layer 18: what is had of a key is never older, in plain words.
-/
namespace Go.Proofs.Ytmjjmkdjjfmhhaa
open Go.RowKit

theorem getX_set {k : K3} {y : Lsa} : ∀ {M : List Lsa}, getX k (setX y M) = if keyH y.head = k then some y else getX k M
  | [] => by unfold setX getX; split <;> simp_all [getX]
  | x :: M => by
    unfold setX
    by_cases hx : keyH x.head = keyH y.head
    · rw [if_pos hx]
      unfold getX
      rw [hx]
      by_cases hk : keyH y.head = k
      · rw [if_pos hk, if_pos hk]
      · rw [if_neg hk, if_neg hk, if_neg hk]
    · rw [if_neg hx]
      unfold getX
      by_cases hk : keyH x.head = k
      · rw [if_pos hk, if_pos hk, if_neg (fun e => hx (by rw [hk, e]))]
      · rw [if_neg hk, if_neg hk, getX_set]
theorem setX_ages {M : List Lsa} {y : Lsa} (h : agesX M) (hy : 0 ≤ y.head.age ∧ y.head.age ≤ 60) : agesX (setX y M) := fun x hx => (setX_mem hx).elim (h x) (fun e => by rw [e]; exact hy)
/-- of each of the heads what is had is never older -/
structure KeepI (M : List Lsa) (H : List Hd) : Prop where
  ages : agesX M
  has : ∀ h ∈ H, (0 ≤ h.age ∧ h.age ≤ 60) ∧ ∃ y, getX (keyH h) M = some y ∧ 0 ≤ newerI y.head h
theorem KeepI.nil : KeepI [] [] := ⟨fun _ h => absurd h (by simp), fun _ h => absurd h (by simp)⟩
theorem keyH_sealed (h : Hd) (ls : List Lnk) (ms : List Int) : keyH (sealedH h ls ms) = keyH h := by simp only [keyH, sealedH]
theorem took_keep {room : Int} {M M' : List Lsa} {H : List Hd} {x : Lsa} {n : Int} (hi : KeepI M H) (hn : takeN room M x true = n) {B : Nat} (ht : TookTo B M x n M') (hr : rightB x = true) (h0 : n ≠ 0) :
    n ≠ 1 ∧ KeepI M' (H ++ [sealedH x.head x.links x.members]) ∧ ∃ y, getX (keyH x.head) M' = some y ∧ ∀ was, getX (keyH x.head) M = some was → 0 ≤ newerI y.head was.head := by
  have hage := right_age (h := x.head) (ka := x.ka) (kc := x.kcap) (ls := x.links) (ma := x.ma) (mc := x.mcap) (ms := x.members) hr
  unfold takeN at hn
  rw [if_pos hr] at hn
  unfold TookTo at ht
  obtain ⟨s, hs, hsa, hsk⟩ : ∃ s, sealedH x.head x.links x.members = s ∧ s.age = x.head.age ∧ keyH s = keyH x.head := ⟨_, rfl, by simp only [sealedH], keyH_sealed _ _ _⟩
  rw [hs] at hn ht ⊢
  clear hs
  have hsg : 0 ≤ s.age ∧ s.age ≤ 60 := by rw [hsa]; exact hage
  rcases ht with ⟨rfl, Aa, ca, Ab, cb, -, -, rfl⟩ | ⟨hn2, hMM⟩
  · have hset : ∀ k, getX k (setX ⟨s, Aa, ca, x.links, Ab, cb, x.members⟩ M) = if keyH x.head = k then some ⟨s, Aa, ca, x.links, Ab, cb, x.members⟩ else getX k M := fun k => by rw [getX_set]; simp only [hsk]
    have hnew : ∀ was, getX (keyH x.head) M = some was → 0 < newerI s was.head := by
      intro was hw
      rw [hw] at hn
      simp only at hn
      split at hn
      · cases hn
      · split at hn
        · cases hn
        · omega
    refine ⟨by decide, ⟨setX_ages hi.ages hsg, fun h hh => ?_⟩, _, by rw [hset, if_pos rfl], fun was hw => Int.le_of_lt (hnew was hw)⟩
    rcases List.mem_append.1 hh with hh | hh
    · obtain ⟨h1, y, hy, h2⟩ := hi.has h hh
      refine ⟨h1, ?_⟩
      rw [hset]
      by_cases hk : keyH x.head = keyH h
      · rw [if_pos hk]
        refine ⟨_, rfl, ?_⟩
        rw [← hk] at hy
        exact newer_trans h1 (hi.ages y (getX_mem hy).1) hsg h2 (hnew y hy)
      · rw [if_neg hk]
        exact ⟨y, hy, h2⟩
    · rw [List.mem_singleton] at hh
      subst hh
      refine ⟨hsg, _, by rw [hset, if_pos hsk.symm], ?_⟩
      rw [newer_self3]
      exact Int.le_refl _
  · rw [hMM]
    cases hg : getX (keyH x.head) M with
    | none =>
      rw [hg] at hn
      simp only at hn
      rw [if_neg (by simp)] at hn
      split at hn
      · exact absurd hn.symm h0
      · exact absurd hn.symm hn2
    | some y =>
      rw [hg] at hn
      simp only at hn
      have hle : 0 ≤ newerI y.head s ∧ n ≠ 1 := by
        rw [newer_anti s y.head]
        split at hn
        · omega
        · split at hn
          · omega
          · exact absurd hn.symm hn2
      refine ⟨hle.2, ⟨hi.ages, fun h hh => ?_⟩, y, rfl, fun was hw => ?_⟩
      · rcases List.mem_append.1 hh with hh | hh
        · exact hi.has h hh
        · rw [List.mem_singleton] at hh
          subst hh
          exact ⟨hsg, y, by rw [hsk]; exact hg, hle.1⟩
      · injection hw with hw
        subst hw
        rw [newer_self3]
        exact Int.le_refl _
theorem took_none {B : Nat} {M M' : List Lsa} {x : Lsa} (ht : TookTo B M x 0 M') : M' = M := by
  rcases ht with ⟨h, -⟩ | ⟨-, h⟩
  · cases h
  · exact h
theorem took_right {room : Int} {M : List Lsa} {x : Lsa} {n : Int} (hn : takeN room M x true = n) (h0 : n ≠ 0) : rightB x = true := by
  unfold takeN at hn
  by_cases h : rightB x = true
  · exact h
  · rw [if_neg h] at hn; exact absurd hn.symm h0


end Go.Proofs.Ytmjjmkdjjfmhhaa
