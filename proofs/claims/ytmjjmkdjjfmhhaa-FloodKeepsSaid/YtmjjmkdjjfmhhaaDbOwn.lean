/-
  A description of its own: the program's way.
-/
import Derived.Test.YtmjjmkdjjfmhhaaLsSeal
namespace Go.Proofs.Ytmjjmkdjjfmhhaa
open Go.RowKit

set_option maxHeartbeats 8000000 in
set_option maxRecDepth 100000 in
theorem own_any (y1 y2 y3 y4 y5 y6 y7 : Int) (ka : Option Addr) (kc : Nat) (ls : List Lnk) (ma : Option Addr) (mc : Nat) (ms : List Int) (w : World) (B : Nat) (hl : RowsAt 4 Lnk.cells w B ka ls) (hm : RowsAt 1 icell w B ma ms) (hB : B ≤ w.heap.size) (hlm : ls.length ≤ 2 ^ 20) (hmm : ms.length ≤ 2 ^ 20) (nl nm : Nat) (hnl : nl = ls.length) (hnm : nm = ms.length) :
    Calls Try.prog 65 #[.agg #[.int .i64 y1, .int .i64 y2, .int .i64 y3, .int .i64 y4, .int .i64 y5, .int .i64 y6, .int .i64 y7, .slice ka nl kc, .slice ma nm mc]] w fun r w' => ∃ Aa ca Ab cb, r = .returned (.agg #[.int .i64 y1, .int .i64 y2, .int .i64 y3, .int .i64 y4, .int .i64 y5, .int .i64 y6, .int .i64 y7, .slice Aa nl ca, .slice Ab nm cb]) ∧ OwnR 108 4 Lnk.cells w' w.heap.size (.slice Aa nl ca) ls ∧ OwnR 3 1 icell w' w.heap.size (.slice Ab nm cb) ms ∧ Below w.heap.size w w' := by
  obtain ⟨w1, hW1⟩ : ∃ w1, w.alloc (.cells #[.int .i64 y1, .int .i64 y2, .int .i64 y3, .int .i64 y4, .int .i64 y5, .int .i64 y6, .int .i64 y7, .slice ka nl kc, .slice ma nm mc] 27) = w1 := ⟨_, rfl⟩
  have hk := Blk.new w 27 #[.int .i64 y1, .int .i64 y2, .int .i64 y3, .int .i64 y4, .int .i64 y5, .int .i64 y6, .int .i64 y7, .slice ka nl kc, .slice ma nm mc]
  have hb := below_new w (.cells #[.int .i64 y1, .int .i64 y2, .int .i64 y3, .int .i64 y4, .int .i64 y5, .int .i64 y6, .int .i64 y7, .slice ka nl kc, .slice ma nm mc] 27)
  rw [hW1] at hk hb
  have FW := Lib.hid (fun W (hW : Below w1.heap.size w1 W) => blk9 (hk.below hW hk.lt))
  have Hb := Lib.hid hb
  have HL := Lib.hid (rows_keep (hl.more hB) hb)
  have HM := Lib.hid (rows_keep (hm.more hB) hb)
  have hsz := hb.size
  have Hnl := Lib.hid hnl
  have Hnm := Lib.hid hnm
  have hnl2 : nl ≤ 2 ^ 20 := by omega
  have hnm2 : nm ≤ 2 ^ 20 := by omega
  clear hk hb hl hm hB hnl hnm hlm hmm
  go_enter Try.func65, Try.ntmps65
  go_upto_region 1 with fail
  obtain ⟨w2, hW2⟩ : ∃ w2, w1.alloc (.cells #[.int .i64 0, .int .i64 0, .int .i64 0, .int .i64 0, .int .i64 0, .int .i64 0, .int .i64 0, .slice none 0 0, .slice none 0 0] 27) = w2 := ⟨_, rfl⟩
  have hq := Blk.new w1 27 #[.int .i64 0, .int .i64 0, .int .i64 0, .int .i64 0, .int .i64 0, .int .i64 0, .int .i64 0, .slice none 0 0, .slice none 0 0]
  have hb2 := below_new w1 (.cells #[.int .i64 0, .int .i64 0, .int .i64 0, .int .i64 0, .int .i64 0, .int .i64 0, .int .i64 0, .slice none 0 0, .slice none 0 0] 27)
  rw [hW2] at hq hb2 ⊢
  have F2 := Lib.hid (fun W (hW : Below w2.heap.size w2 W) => FW.out W (below_trans hb2 hb2.size hW))
  have FQ := Lib.hid (fun W (hW : Below w2.heap.size w2 W) => hq.below hW hq.lt)
  have HL2 := Lib.hid (rows_keep HL.out hb2)
  have HM2 := Lib.hid (rows_keep HM.out hb2)
  have Hb2 := Lib.hid hb2
  have hq1 : w1.heap.size < w2.heap.size := hq.lt
  clear hW2 hW1 hq hb2 FW HL HM
  refine wp_region_F (F := fun W => Below w2.heap.size w2 W) (n := 9) (m := 10) (s := #[false, false, false, false, false, false, false, false, false, false]) (by kernel_rfl) (by kernel_rfl) (by kernel_rfl) ?_
  intro wd hwd
  have hF : Below w2.heap.size w2 wd := by rw [hwd.out]; exact (Below.refl _ _).drew
  clear hwd
  refine F_take (i := 0) (d := some 3) (by kernel_rfl) (by kernel_rfl) (by decide) (s' := #[true, false, false, false, false, false, false, false, false, false]) (by kernel_rfl) rfl rfl (by kernel_rfl) (by kernel_rfl) (by kernel_rfl) (fun _ _ _ h => h) (Or.inl ⟨by kernel_rfl, fun W hW => by obtain ⟨x0, x1, x2, x3, x4, x5, x6, x7, x8, -⟩ := F2.out W hW; go_simp; try with_reducible rfl⟩) hF ?_
  go_frame
  refine F_take (i := 2) (d := some 5) (by kernel_rfl) (by kernel_rfl) (by decide) (s' := #[true, false, true, false, false, false, false, false, false, false]) (by kernel_rfl) rfl rfl (by kernel_rfl) (by kernel_rfl) (by kernel_rfl) (fun _ _ _ h => h) (Or.inl ⟨by kernel_rfl, fun W hW => by obtain ⟨x0, x1, x2, x3, x4, x5, x6, x7, x8, -⟩ := F2.out W hW; go_simp; try with_reducible rfl⟩) hF ?_
  go_frame
  refine F_take (i := 5) (d := some 8) (by kernel_rfl) (by kernel_rfl) (by decide) (s' := #[true, false, true, false, false, true, false, false, false, false]) (by kernel_rfl) rfl rfl (by kernel_rfl) (by kernel_rfl) (by kernel_rfl) (fun _ _ _ h => h) (Or.inl ⟨by kernel_rfl, fun W hW => by obtain ⟨x0, x1, x2, x3, x4, x5, x6, x7, x8, -⟩ := F2.out W hW; go_simp; try with_reducible rfl⟩) hF ?_
  go_frame
  refine F_take (i := 1) (d := some 4) (by kernel_rfl) (by kernel_rfl) (by decide) (s' := #[true, true, true, false, false, true, false, false, false, false]) (by kernel_rfl) rfl rfl (by kernel_rfl) (by kernel_rfl) (by kernel_rfl) (fun _ _ _ h => h) (Or.inl ⟨by kernel_rfl, fun W hW => by obtain ⟨x0, x1, x2, x3, x4, x5, x6, x7, x8, -⟩ := F2.out W hW; go_simp; try with_reducible rfl⟩) hF ?_
  go_frame
  refine F_take (i := 3) (d := some 6) (by kernel_rfl) (by kernel_rfl) (by decide) (s' := #[true, true, true, true, false, true, false, false, false, false]) (by kernel_rfl) rfl rfl (by kernel_rfl) (by kernel_rfl) (by kernel_rfl) (fun _ _ _ h => h) (Or.inl ⟨by kernel_rfl, fun W hW => by obtain ⟨x0, x1, x2, x3, x4, x5, x6, x7, x8, -⟩ := F2.out W hW; go_simp; try with_reducible rfl⟩) hF ?_
  go_frame
  refine F_take (i := 6) (d := some 9) (by kernel_rfl) (by kernel_rfl) (by decide) (s' := #[true, true, true, true, false, true, true, false, false, false]) (by kernel_rfl) rfl rfl (by kernel_rfl) (by kernel_rfl) (by kernel_rfl) (fun _ _ _ h => h) (Or.inl ⟨by kernel_rfl, fun W hW => by obtain ⟨x0, x1, x2, x3, x4, x5, x6, x7, x8, -⟩ := F2.out W hW; go_simp; try with_reducible rfl⟩) hF ?_
  go_frame
  refine F_one (i := 4) (s' := #[true, true, true, true, true, true, true, false, false, false]) (by kernel_rfl) (by kernel_rfl) (wpOp_enterL (i := 4) (d := some 7) (f := 85) (args := #[.slice ka nl kc]) rfl rfl (by kernel_rfl) (by go_simp) ((cloneLnk ka kc ls wd w2.heap.size (HL2.out.below hF) hF.size (by have := Hnl.out; omega) nl Hnl.out).mono ?_))
  rintro r v4w ⟨va, rfl, oA, hb4⟩
  obtain ⟨Aa, ca, rfl⟩ : ∃ A c, va = .slice A nl c := by obtain ⟨A, c, e⟩ := oA.shape; exact ⟨A, c, by rw [e, Hnl.out]⟩
  have oA := OwnR.lower oA hF.size
  have hF := below_trans hF hF.size hb4
  refine ⟨_, rfl, fun _ => hF, ?_⟩
  go_frame
  clear hb4
  refine F_one (i := 7) (s' := #[true, true, true, true, true, true, true, true, false, false]) (by kernel_rfl) (by kernel_rfl) (wpOp_enterL (i := 7) (d := some 10) (f := 86) (args := #[.slice ma nm mc]) rfl rfl (by kernel_rfl) (by go_simp) ((cloneInt ma mc ms v4w w2.heap.size (HM2.out.below hF) hF.size (by have := Hnm.out; omega) nm Hnm.out).mono ?_))
  rintro r v7w ⟨vb, rfl, oB, hb7⟩
  obtain ⟨Ab, cb, rfl⟩ : ∃ A c, vb = .slice A nm c := by obtain ⟨A, c, e⟩ := oB.shape; exact ⟨A, c, by rw [e, Hnm.out]⟩
  have oA := OwnR.below oA hb7
  have oB := OwnR.lower oB hF.size
  have hF := below_trans hF hF.size hb7
  refine ⟨_, rfl, fun _ => hF, ?_⟩
  go_frame
  clear hb7
  refine F_take (i := 8) (d := some 11) (by kernel_rfl) (by kernel_rfl) (by decide) (s' := #[true, true, true, true, true, true, true, true, true, false]) (by kernel_rfl) rfl rfl (by kernel_rfl) (by kernel_rfl) (by kernel_rfl) (fun _ _ _ h => h) (Or.inl ⟨by kernel_rfl, fun W hW => by obtain ⟨x0, x1, x2, x3, x4, x5, x6, x7, x8, -⟩ := F2.out W hW; go_simp; try with_reducible rfl⟩) hF ?_
  go_frame
  obtain ⟨u0, u1, u2, u3, u4, u5, u6, u7, u8, uf⟩ := blk9 (FQ.out v7w hF)
  refine F_one (i := 9) (s' := #[true, true, true, true, true, true, true, true, true, true]) (by kernel_rfl) (by kernel_rfl) (wpOp_skipL (i := 9) (w' := (((((((((v7w.setCell ⟨w1.heap.size, 0, none⟩ (.int .i64 y1)).setCell ⟨w1.heap.size, 1, none⟩ (.int .i64 y2)).setCell ⟨w1.heap.size, 2, none⟩ (.int .i64 y3)).setCell ⟨w1.heap.size, 3, none⟩ (.int .i64 y4)).setCell ⟨w1.heap.size, 4, none⟩ (.int .i64 y5)).setCell ⟨w1.heap.size, 5, none⟩ (.int .i64 y6)).setCell ⟨w1.heap.size, 6, none⟩ (.int .i64 y7)).setCell ⟨w1.heap.size, 7, none⟩ (.slice Aa nl ca)).setCell ⟨w1.heap.size, 8, none⟩ (.slice Ab nm cb))) rfl rfl (by kernel_rfl) (by go_simp) ⟨fun h => absurd h (by decide), ?_⟩)
  go_frame
  refine F_done (by kernel_rfl) ?_ _
  clear u0 u1 u2 u3 u4 u5 u6 u7 u8 uf
  have Hqa : Hid ((Value.slice Aa nl ca).ownBlock ≠ some w1.heap.size) := Lib.hid (fun e => by have := (OwnR.block oA _ e).1; omega)
  have Hqb : Hid ((Value.slice Ab nm cb).ownBlock ≠ some w1.heap.size) := Lib.hid (fun e => by have := (OwnR.block oB _ e).1; omega)
  have HF := Lib.hid hF
  have OA := Lib.hid oA
  have OB := Lib.hid oB
  clear oA oB hF
  go_wp2
  refine bodyPost_named (v := .agg #[.int .i64 y1, .int .i64 y2, .int .i64 y3, .int .i64 y4, .int .i64 y5, .int .i64 y6, .int .i64 y7, .slice Aa nl ca, .slice Ab nm cb]) (fun W => Blk W w1.heap.size 27 #[.int .i64 y1, .int .i64 y2, .int .i64 y3, .int .i64 y4, .int .i64 y5, .int .i64 y6, .int .i64 y7, .slice Aa nl ca, .slice Ab nm cb]) (Blk.set9 (FQ.out v7w HF.out) _ _ _ _ _ _ _ _ _) (fun W hB => by
    obtain ⟨e0, e1, e2, e3, e4, e5, e6, e7, e8, -⟩ := blk9 hB
    simp [results, Try.results65, go_sem, e0, e1, e2, e3, e4, e5, e6, e7, e8]) rfl ?_
  exact ⟨Aa, ca, Ab, cb, rfl, OwnR.lower (own_far9 OA.out Hqa.out _ _ _ _ _ _ _ _ _) (Nat.le_trans hsz Hb2.out.size), OwnR.lower (own_far9 OB.out Hqb.out _ _ _ _ _ _ _ _ _) (Nat.le_trans hsz Hb2.out.size), below_set9 (below_trans Hb.out hsz (below_trans Hb2.out Hb2.out.size HF.out)) hsz _ _ _ _ _ _ _ _ _⟩

end Go.Proofs.Ytmjjmkdjjfmhhaa
