/-
  A head's bytes: the program's way.
-/
import Derived.Deep.CutRange
import Derived.Deep.DeepCutAuto
import Derived.Test.YtpnbibokddhheaaGreatBab
import Derived.Test.YtpnbibokddhheaaGreatBac
namespace Go.Proofs.YtpnbibokddhheaaGreat
open Go.RowKit

def head1 (age kind : Int) : List Int := (([] : List Int) ++ [age].flatMap (beL 2)) ++ [0, kind].flatMap (beL 1)
def headL (h : Hd) : List Int := (head1 h.age h.kind ++ [h.id, h.adv, h.seq].flatMap (beL 4)) ++ [h.sum, h.long].flatMap (beL 2)
theorem head1_len (a b : Int) : (head1 a b).length = 4 := by simp [head1, beL_len]
theorem headL_len (h : Hd) : (headL h).length = 20 := by simp [headL, head1_len, beL_len]
set_option maxHeartbeats 8000000 in
set_option maxRecDepth 100000 in
theorem PutHead_any (y1 y2 y3 y4 y5 y6 y7 : Int) (w : World) :
    Calls Tryz.prog 131 #[.agg #[.int .i64 y1, .int .i64 y2, .int .i64 y3, .int .i64 y4, .int .i64 y5, .int .i64 y6, .int .i64 y7]] w fun r w' => ∃ v, r = .returned v ∧ OwnB w' w.heap.size v (headL ⟨y1, y2, y3, y4, y5, y6, y7⟩) ∧ Below w.heap.size w w' := by
  obtain ⟨w1, hW1⟩ : ∃ w1, w.alloc (.cells #[.int .i64 y1, .int .i64 y2, .int .i64 y3, .int .i64 y4, .int .i64 y5, .int .i64 y6, .int .i64 y7] 27) = w1 := ⟨_, rfl⟩
  have hk := Blk.new w 27 #[.int .i64 y1, .int .i64 y2, .int .i64 y3, .int .i64 y4, .int .i64 y5, .int .i64 y6, .int .i64 y7]
  have hb := below_new w (.cells #[.int .i64 y1, .int .i64 y2, .int .i64 y3, .int .i64 y4, .int .i64 y5, .int .i64 y6, .int .i64 y7] 27)
  rw [hW1] at hk hb
  have FW := Lib.hid (fun W (hW : Below w1.heap.size w1 W) => (hk.below hW hk.lt).both7)
  have Hb := Lib.hid hb
  have hsz := hb.size
  clear hk hb
  go_enter Tryz.func131, Tryz.ntmps131
  go_upto_region 1 with fail
  go_cut [3] from 4 to 27 (fun v wx => ∃ A c, v = .slice A (head1 y1 y2).length c ∧ RowsAt 1 bcell wx wx.heap.size A (head1 y1 y2) ∧ Below w1.heap.size w1 wx)
  case first =>
    go_wp2
    refine wp_region_F (F := fun W => Below w1.heap.size w1 W) (n := 8) (m := 9) (s := #[false, false, false, false, false, false, false, false, false]) (by kernel_rfl) (by kernel_rfl) (by kernel_rfl) ?_
    intro wd hwd
    have hF : Below w1.heap.size w1 wd := by rw [hwd.out]; exact (Below.refl _ _).drew
    clear hwd
    refine F_take (i := 0) (d := some 4) (by kernel_rfl) (by kernel_rfl) (by decide) (s' := #[true, false, false, false, false, false, false, false, false]) (by kernel_rfl) rfl rfl (by kernel_rfl) (by kernel_rfl) (by kernel_rfl) (fun _ _ _ h => h) (Or.inl ⟨by kernel_rfl, fun W hW => by obtain ⟨x0, x1, x2, x3, x4, x5, x6, -⟩ := FW.out W hW; go_simp; try with_reducible rfl⟩) hF ?_
    go_frame
    refine F_take (i := 1) (d := some 5) (by kernel_rfl) (by kernel_rfl) (by decide) (s' := #[true, true, false, false, false, false, false, false, false]) (by kernel_rfl) rfl rfl (by kernel_rfl) (by kernel_rfl) (by kernel_rfl) (fun _ _ _ h => h) (Or.inl ⟨by kernel_rfl, fun W hW => by obtain ⟨x0, x1, x2, x3, x4, x5, x6, -⟩ := FW.out W hW; go_simp; try with_reducible rfl⟩) hF ?_
    go_frame
    refine F_take (i := 4) (d := some 8) (by kernel_rfl) (by kernel_rfl) (by decide) (s' := #[true, true, false, false, true, false, false, false, false]) (by kernel_rfl) rfl rfl (by kernel_rfl) (by kernel_rfl) (by kernel_rfl) (fun _ _ _ h => h) (Or.inl ⟨by kernel_rfl, fun W hW => by obtain ⟨x0, x1, x2, x3, x4, x5, x6, -⟩ := FW.out W hW; go_simp; try with_reducible rfl⟩) hF ?_
    go_frame
    refine F_take (i := 5) (d := some 9) (by kernel_rfl) (by kernel_rfl) (by decide) (s' := #[true, true, false, false, true, true, false, false, false]) (by kernel_rfl) rfl rfl (by kernel_rfl) (by kernel_rfl) (by kernel_rfl) (fun _ _ _ h => h) (Or.inl ⟨by kernel_rfl, fun W hW => by obtain ⟨x0, x1, x2, x3, x4, x5, x6, -⟩ := FW.out W hW; go_simp; try with_reducible rfl⟩) hF ?_
    go_frame
    refine F_two (i := 2) (si := #[true, true, true, false, true, true, false, false, false]) (j := 6) (sj := #[true, true, false, false, true, true, true, false, false]) (by kernel_rfl) (by kernel_rfl) (by kernel_rfl) ?_ ?_
    · skip
      obtain ⟨g2, hg2⟩ : ∃ g2, wd.heap.size = g2 := ⟨_, rfl⟩
      obtain ⟨v2w, hv2w⟩ : ∃ v2w, wd.alloc (.cells #[.int .i64 y1] 3) = v2w := ⟨_, rfl⟩
      have hb2 : Below wd.heap.size wd v2w := by rw [← hv2w]; exact below_new _ _
      have R2 : RowsAt 1 icell v2w v2w.heap.size (some ⟨g2, 0, none⟩) [y1] := by rw [← hv2w, ← hg2]; exact ints_new wd 3 [y1]
      have hF := below_trans hF hF.size hb2
      refine wpOp_valueL (i := 2) (d := some 6) (w' := v2w) (v := .slice (some ⟨g2, 0, none⟩) 1 1) rfl rfl (by kernel_rfl) (by go_simp) ⟨fun _ => hF, ?_⟩
      go_frame
      clear hv2w hg2 hb2
      refine F_two (i := 3) (si := #[true, true, true, true, true, true, false, false, false]) (j := 6) (sj := #[true, true, true, false, true, true, true, false, false]) (by kernel_rfl) (by kernel_rfl) (by kernel_rfl) ?_ ?_
      · skip
        refine wpOp_enterL (i := 3) (d := some 7) (f := 130) (args := #[.slice none 0 0, .int .i64 2, .slice (some ⟨g2, 0, none⟩) 1 1]) rfl rfl (by kernel_rfl) (by go_simp) ((quadPut none 0 ([] : List Int) 2 (by decide) (by decide) (some ⟨g2, 0, none⟩) 1 [y1] v2w v2w.heap.size RowsAt.nil R2 (Nat.le_refl _) (by simp) (by simp) 0 1 rfl rfl).mono ?_)
        rintro r v3w ⟨v, rfl, hown, hb3⟩
        obtain ⟨M3, hM3⟩ : ∃ M3, ([] : List Int) ++ [y1].flatMap (beL 2) = M3 := ⟨_, rfl⟩
        rw [hM3] at hown
        have nM3 : M3.length = 2 := by rw [← hM3]; simp [beL_len]
        obtain ⟨A3, c3, rfl⟩ := hown.shape
        have R3 := (OwnR.rows (C := 1) (cells := bcell) (fun _ => rfl) hown).2
        have hown3 := OwnR.lower hown hF.size
        have hF := below_trans hF hF.size hb3
        have R2 := rows_keep R2 hb3
        refine ⟨_, rfl, fun _ => hF, ?_⟩
        go_frame
        clear hb3 hown
        obtain ⟨g6, hg6⟩ : ∃ g6, v3w.heap.size = g6 := ⟨_, rfl⟩
        obtain ⟨v6w, hv6w⟩ : ∃ v6w, v3w.alloc (.cells #[.int .i64 0, .int .i64 y2] 3) = v6w := ⟨_, rfl⟩
        have hb6 : Below v3w.heap.size v3w v6w := by rw [← hv6w]; exact below_new _ _
        have R6 : RowsAt 1 icell v6w v6w.heap.size (some ⟨g6, 0, none⟩) [0, y2] := by rw [← hv6w, ← hg6]; exact ints_new v3w 3 [0, y2]
        have hF := below_trans hF hF.size hb6
        have R2 := rows_keep R2 hb6
        have R3 := rows_keep R3 hb6
        refine F_one (i := 6) (s' := #[true, true, true, true, true, true, true, false, false]) (by kernel_rfl) (by kernel_rfl) (wpOp_valueL (i := 6) (d := some 10) (w' := v6w) (v := .slice (some ⟨g6, 0, none⟩) 2 2) rfl rfl (by kernel_rfl) (by go_simp) ⟨fun _ => hF, ?_⟩)
        go_frame
        clear hv6w hg6 hb6
        refine F_one (i := 7) (s' := #[true, true, true, true, true, true, true, true, false]) (by kernel_rfl) (by kernel_rfl) (wpOp_enterL (i := 7) (d := some 11) (f := 130) (args := #[.slice A3 M3.length c3, .int .i64 1, .slice (some ⟨g6, 0, none⟩) 2 2]) rfl rfl (by kernel_rfl) (by go_simp) ((quadPut A3 c3 M3 1 (by decide) (by decide) (some ⟨g6, 0, none⟩) 2 [0, y2] v6w v6w.heap.size R3 R6 (Nat.le_refl _) (by rw [nM3]; decide) (by simp) M3.length 2 rfl rfl).mono ?_))
        rintro r v7w ⟨v, rfl, hown, hb7⟩
        obtain ⟨M7, hM7⟩ : ∃ M7, M3 ++ [0, y2].flatMap (beL 1) = M7 := ⟨_, rfl⟩
        rw [hM7] at hown
        have nM7 : M7.length = 4 := by rw [← hM7]; simp [beL_len, nM3]
        obtain ⟨A7, c7, rfl⟩ := hown.shape
        have R7 := (OwnR.rows (C := 1) (cells := bcell) (fun _ => rfl) hown).2
        have hown7 := OwnR.lower hown hF.size
        have hF := below_trans hF hF.size hb7
        have R2 := rows_keep R2 hb7
        have R3 := rows_keep R3 hb7
        have R6 := rows_keep R6 hb7
        refine ⟨_, rfl, fun _ => hF, ?_⟩
        go_frame
        clear hb7 hown
        refine F_one (i := 8) (s' := #[true, true, true, true, true, true, true, true, true]) (by kernel_rfl) (by kernel_rfl) (wpOp_valueL (i := 8) (d := some 3) (w' := v7w) (v := .slice A7 M7.length c7) rfl rfl (by kernel_rfl) (by go_simp) ⟨fun h => absurd h (by decide), ?_⟩)
        go_frame
        refine F_done (by kernel_rfl) ?_ _
        subst hM7 hM3
        go_wp2_with fail
        go_meet
        case rel => exact ⟨_, _, rfl, R7, hF⟩
      · skip
        obtain ⟨g6, hg6⟩ : ∃ g6, v2w.heap.size = g6 := ⟨_, rfl⟩
        obtain ⟨v6w, hv6w⟩ : ∃ v6w, v2w.alloc (.cells #[.int .i64 0, .int .i64 y2] 3) = v6w := ⟨_, rfl⟩
        have hb6 : Below v2w.heap.size v2w v6w := by rw [← hv6w]; exact below_new _ _
        have R6 : RowsAt 1 icell v6w v6w.heap.size (some ⟨g6, 0, none⟩) [0, y2] := by rw [← hv6w, ← hg6]; exact ints_new v2w 3 [0, y2]
        have hF := below_trans hF hF.size hb6
        have R2 := rows_keep R2 hb6
        refine wpOp_valueL (i := 6) (d := some 10) (w' := v6w) (v := .slice (some ⟨g6, 0, none⟩) 2 2) rfl rfl (by kernel_rfl) (by go_simp) ⟨fun _ => hF, ?_⟩
        go_frame
        clear hv6w hg6 hb6
        refine F_one (i := 3) (s' := #[true, true, true, true, true, true, true, false, false]) (by kernel_rfl) (by kernel_rfl) (wpOp_enterL (i := 3) (d := some 7) (f := 130) (args := #[.slice none 0 0, .int .i64 2, .slice (some ⟨g2, 0, none⟩) 1 1]) rfl rfl (by kernel_rfl) (by go_simp) ((quadPut none 0 ([] : List Int) 2 (by decide) (by decide) (some ⟨g2, 0, none⟩) 1 [y1] v6w v6w.heap.size RowsAt.nil R2 (Nat.le_refl _) (by simp) (by simp) 0 1 rfl rfl).mono ?_))
        rintro r v3w ⟨v, rfl, hown, hb3⟩
        obtain ⟨M3, hM3⟩ : ∃ M3, ([] : List Int) ++ [y1].flatMap (beL 2) = M3 := ⟨_, rfl⟩
        rw [hM3] at hown
        have nM3 : M3.length = 2 := by rw [← hM3]; simp [beL_len]
        obtain ⟨A3, c3, rfl⟩ := hown.shape
        have R3 := (OwnR.rows (C := 1) (cells := bcell) (fun _ => rfl) hown).2
        have hown3 := OwnR.lower hown hF.size
        have hF := below_trans hF hF.size hb3
        have R2 := rows_keep R2 hb3
        have R6 := rows_keep R6 hb3
        refine ⟨_, rfl, fun _ => hF, ?_⟩
        go_frame
        clear hb3 hown
        refine F_one (i := 7) (s' := #[true, true, true, true, true, true, true, true, false]) (by kernel_rfl) (by kernel_rfl) (wpOp_enterL (i := 7) (d := some 11) (f := 130) (args := #[.slice A3 M3.length c3, .int .i64 1, .slice (some ⟨g6, 0, none⟩) 2 2]) rfl rfl (by kernel_rfl) (by go_simp) ((quadPut A3 c3 M3 1 (by decide) (by decide) (some ⟨g6, 0, none⟩) 2 [0, y2] v3w v3w.heap.size R3 R6 (Nat.le_refl _) (by rw [nM3]; decide) (by simp) M3.length 2 rfl rfl).mono ?_))
        rintro r v7w ⟨v, rfl, hown, hb7⟩
        obtain ⟨M7, hM7⟩ : ∃ M7, M3 ++ [0, y2].flatMap (beL 1) = M7 := ⟨_, rfl⟩
        rw [hM7] at hown
        have nM7 : M7.length = 4 := by rw [← hM7]; simp [beL_len, nM3]
        obtain ⟨A7, c7, rfl⟩ := hown.shape
        have R7 := (OwnR.rows (C := 1) (cells := bcell) (fun _ => rfl) hown).2
        have hown7 := OwnR.lower hown hF.size
        have hF := below_trans hF hF.size hb7
        have R2 := rows_keep R2 hb7
        have R6 := rows_keep R6 hb7
        have R3 := rows_keep R3 hb7
        refine ⟨_, rfl, fun _ => hF, ?_⟩
        go_frame
        clear hb7 hown
        refine F_one (i := 8) (s' := #[true, true, true, true, true, true, true, true, true]) (by kernel_rfl) (by kernel_rfl) (wpOp_valueL (i := 8) (d := some 3) (w' := v7w) (v := .slice A7 M7.length c7) rfl rfl (by kernel_rfl) (by go_simp) ⟨fun h => absurd h (by decide), ?_⟩)
        go_frame
        refine F_done (by kernel_rfl) ?_ _
        subst hM7 hM3
        go_wp2_with fail
        go_meet
        case rel => exact ⟨_, _, rfl, R7, hF⟩
    · skip
      obtain ⟨g6, hg6⟩ : ∃ g6, wd.heap.size = g6 := ⟨_, rfl⟩
      obtain ⟨v6w, hv6w⟩ : ∃ v6w, wd.alloc (.cells #[.int .i64 0, .int .i64 y2] 3) = v6w := ⟨_, rfl⟩
      have hb6 : Below wd.heap.size wd v6w := by rw [← hv6w]; exact below_new _ _
      have R6 : RowsAt 1 icell v6w v6w.heap.size (some ⟨g6, 0, none⟩) [0, y2] := by rw [← hv6w, ← hg6]; exact ints_new wd 3 [0, y2]
      have hF := below_trans hF hF.size hb6
      refine wpOp_valueL (i := 6) (d := some 10) (w' := v6w) (v := .slice (some ⟨g6, 0, none⟩) 2 2) rfl rfl (by kernel_rfl) (by go_simp) ⟨fun _ => hF, ?_⟩
      go_frame
      clear hv6w hg6 hb6
      obtain ⟨g2, hg2⟩ : ∃ g2, v6w.heap.size = g2 := ⟨_, rfl⟩
      obtain ⟨v2w, hv2w⟩ : ∃ v2w, v6w.alloc (.cells #[.int .i64 y1] 3) = v2w := ⟨_, rfl⟩
      have hb2 : Below v6w.heap.size v6w v2w := by rw [← hv2w]; exact below_new _ _
      have R2 : RowsAt 1 icell v2w v2w.heap.size (some ⟨g2, 0, none⟩) [y1] := by rw [← hv2w, ← hg2]; exact ints_new v6w 3 [y1]
      have hF := below_trans hF hF.size hb2
      have R6 := rows_keep R6 hb2
      refine F_one (i := 2) (s' := #[true, true, true, false, true, true, true, false, false]) (by kernel_rfl) (by kernel_rfl) (wpOp_valueL (i := 2) (d := some 6) (w' := v2w) (v := .slice (some ⟨g2, 0, none⟩) 1 1) rfl rfl (by kernel_rfl) (by go_simp) ⟨fun _ => hF, ?_⟩)
      go_frame
      clear hv2w hg2 hb2
      refine F_one (i := 3) (s' := #[true, true, true, true, true, true, true, false, false]) (by kernel_rfl) (by kernel_rfl) (wpOp_enterL (i := 3) (d := some 7) (f := 130) (args := #[.slice none 0 0, .int .i64 2, .slice (some ⟨g2, 0, none⟩) 1 1]) rfl rfl (by kernel_rfl) (by go_simp) ((quadPut none 0 ([] : List Int) 2 (by decide) (by decide) (some ⟨g2, 0, none⟩) 1 [y1] v2w v2w.heap.size RowsAt.nil R2 (Nat.le_refl _) (by simp) (by simp) 0 1 rfl rfl).mono ?_))
      rintro r v3w ⟨v, rfl, hown, hb3⟩
      obtain ⟨M3, hM3⟩ : ∃ M3, ([] : List Int) ++ [y1].flatMap (beL 2) = M3 := ⟨_, rfl⟩
      rw [hM3] at hown
      have nM3 : M3.length = 2 := by rw [← hM3]; simp [beL_len]
      obtain ⟨A3, c3, rfl⟩ := hown.shape
      have R3 := (OwnR.rows (C := 1) (cells := bcell) (fun _ => rfl) hown).2
      have hown3 := OwnR.lower hown hF.size
      have hF := below_trans hF hF.size hb3
      have R6 := rows_keep R6 hb3
      have R2 := rows_keep R2 hb3
      refine ⟨_, rfl, fun _ => hF, ?_⟩
      go_frame
      clear hb3 hown
      refine F_one (i := 7) (s' := #[true, true, true, true, true, true, true, true, false]) (by kernel_rfl) (by kernel_rfl) (wpOp_enterL (i := 7) (d := some 11) (f := 130) (args := #[.slice A3 M3.length c3, .int .i64 1, .slice (some ⟨g6, 0, none⟩) 2 2]) rfl rfl (by kernel_rfl) (by go_simp) ((quadPut A3 c3 M3 1 (by decide) (by decide) (some ⟨g6, 0, none⟩) 2 [0, y2] v3w v3w.heap.size R3 R6 (Nat.le_refl _) (by rw [nM3]; decide) (by simp) M3.length 2 rfl rfl).mono ?_))
      rintro r v7w ⟨v, rfl, hown, hb7⟩
      obtain ⟨M7, hM7⟩ : ∃ M7, M3 ++ [0, y2].flatMap (beL 1) = M7 := ⟨_, rfl⟩
      rw [hM7] at hown
      have nM7 : M7.length = 4 := by rw [← hM7]; simp [beL_len, nM3]
      obtain ⟨A7, c7, rfl⟩ := hown.shape
      have R7 := (OwnR.rows (C := 1) (cells := bcell) (fun _ => rfl) hown).2
      have hown7 := OwnR.lower hown hF.size
      have hF := below_trans hF hF.size hb7
      have R6 := rows_keep R6 hb7
      have R2 := rows_keep R2 hb7
      have R3 := rows_keep R3 hb7
      refine ⟨_, rfl, fun _ => hF, ?_⟩
      go_frame
      clear hb7 hown
      refine F_one (i := 8) (s' := #[true, true, true, true, true, true, true, true, true]) (by kernel_rfl) (by kernel_rfl) (wpOp_valueL (i := 8) (d := some 3) (w' := v7w) (v := .slice A7 M7.length c7) rfl rfl (by kernel_rfl) (by go_simp) ⟨fun h => absurd h (by decide), ?_⟩)
      go_frame
      refine F_done (by kernel_rfl) ?_ _
      subst hM7 hM3
      go_wp2_with fail
      go_meet
      case rel => exact ⟨_, _, rfl, R7, hF⟩
  case rest =>
    obtain ⟨A, c, rfl, hR, hbx⟩ := hcut
    have Hbx := Lib.hid hbx
    obtain ⟨L1, hL1⟩ : ∃ L1, head1 y1 y2 = L1 := ⟨_, rfl⟩
    have nL1 : L1.length = 4 := by rw [← hL1]; exact head1_len _ _
    have HL1 := Lib.hid hL1
    rw [hL1] at hR ⊢
    have HR := Lib.hid hR
    clear hL1 hR hbx
    go_wp2
    refine wp_region_F (F := fun W => Below w1.heap.size w1 W) (n := 15) (m := 16) (s := #[false, false, false, false, false, false, false, false, false, false, false, false, false, false, false, false]) (by kernel_rfl) (by kernel_rfl) (by kernel_rfl) ?_
    intro wd hwd
    have hF : Below w1.heap.size w1 wd := by rw [hwd.out]; exact Hbx.out.drew
    have R0 : RowsAt 1 bcell wd wd.heap.size A L1 := by rw [hwd.out]; exact rows_keep HR.out (Below.refl _ _).drew
    clear hwd
    refine F_take (i := 0) (d := some 12) (by kernel_rfl) (by kernel_rfl) (by decide) (s' := #[true, false, false, false, false, false, false, false, false, false, false, false, false, false, false, false]) (by kernel_rfl) rfl rfl (by kernel_rfl) (by kernel_rfl) (by kernel_rfl) (fun _ _ _ h => h) (Or.inl ⟨by kernel_rfl, fun W hW => by obtain ⟨x0, x1, x2, x3, x4, x5, x6, -⟩ := FW.out W hW; go_simp; try with_reducible rfl⟩) hF ?_
    go_frame
    refine F_take (i := 1) (d := some 13) (by kernel_rfl) (by kernel_rfl) (by decide) (s' := #[true, true, false, false, false, false, false, false, false, false, false, false, false, false, false, false]) (by kernel_rfl) rfl rfl (by kernel_rfl) (by kernel_rfl) (by kernel_rfl) (fun _ _ _ h => h) (Or.inl ⟨by kernel_rfl, fun W hW => by obtain ⟨x0, x1, x2, x3, x4, x5, x6, -⟩ := FW.out W hW; go_simp; try with_reducible rfl⟩) hF ?_
    go_frame
    refine F_take (i := 2) (d := some 14) (by kernel_rfl) (by kernel_rfl) (by decide) (s' := #[true, true, true, false, false, false, false, false, false, false, false, false, false, false, false, false]) (by kernel_rfl) rfl rfl (by kernel_rfl) (by kernel_rfl) (by kernel_rfl) (fun _ _ _ h => h) (Or.inl ⟨by kernel_rfl, fun W hW => by obtain ⟨x0, x1, x2, x3, x4, x5, x6, -⟩ := FW.out W hW; go_simp; try with_reducible rfl⟩) hF ?_
    go_frame
    refine F_take (i := 3) (d := some 15) (by kernel_rfl) (by kernel_rfl) (by decide) (s' := #[true, true, true, true, false, false, false, false, false, false, false, false, false, false, false, false]) (by kernel_rfl) rfl rfl (by kernel_rfl) (by kernel_rfl) (by kernel_rfl) (fun _ _ _ h => h) (Or.inl ⟨by kernel_rfl, fun W hW => by obtain ⟨x0, x1, x2, x3, x4, x5, x6, -⟩ := FW.out W hW; go_simp; try with_reducible rfl⟩) hF ?_
    go_frame
    refine F_take (i := 4) (d := some 16) (by kernel_rfl) (by kernel_rfl) (by decide) (s' := #[true, true, true, true, true, false, false, false, false, false, false, false, false, false, false, false]) (by kernel_rfl) rfl rfl (by kernel_rfl) (by kernel_rfl) (by kernel_rfl) (fun _ _ _ h => h) (Or.inl ⟨by kernel_rfl, fun W hW => by obtain ⟨x0, x1, x2, x3, x4, x5, x6, -⟩ := FW.out W hW; go_simp; try with_reducible rfl⟩) hF ?_
    go_frame
    refine F_take (i := 5) (d := some 17) (by kernel_rfl) (by kernel_rfl) (by decide) (s' := #[true, true, true, true, true, true, false, false, false, false, false, false, false, false, false, false]) (by kernel_rfl) rfl rfl (by kernel_rfl) (by kernel_rfl) (by kernel_rfl) (fun _ _ _ h => h) (Or.inl ⟨by kernel_rfl, fun W hW => by obtain ⟨x0, x1, x2, x3, x4, x5, x6, -⟩ := FW.out W hW; go_simp; try with_reducible rfl⟩) hF ?_
    go_frame
    refine F_take (i := 6) (d := some 18) (by kernel_rfl) (by kernel_rfl) (by decide) (s' := #[true, true, true, true, true, true, true, false, false, false, false, false, false, false, false, false]) (by kernel_rfl) rfl rfl (by kernel_rfl) (by kernel_rfl) (by kernel_rfl) (fun _ _ _ h => h) (Or.inl ⟨by kernel_rfl, fun W hW => by obtain ⟨x0, x1, x2, x3, x4, x5, x6, -⟩ := FW.out W hW; go_simp; try with_reducible rfl⟩) hF ?_
    go_frame
    refine F_take (i := 9) (d := some 21) (by kernel_rfl) (by kernel_rfl) (by decide) (s' := #[true, true, true, true, true, true, true, false, false, true, false, false, false, false, false, false]) (by kernel_rfl) rfl rfl (by kernel_rfl) (by kernel_rfl) (by kernel_rfl) (fun _ _ _ h => h) (Or.inl ⟨by kernel_rfl, fun W hW => by obtain ⟨x0, x1, x2, x3, x4, x5, x6, -⟩ := FW.out W hW; go_simp; try with_reducible rfl⟩) hF ?_
    go_frame
    refine F_take (i := 10) (d := some 22) (by kernel_rfl) (by kernel_rfl) (by decide) (s' := #[true, true, true, true, true, true, true, false, false, true, true, false, false, false, false, false]) (by kernel_rfl) rfl rfl (by kernel_rfl) (by kernel_rfl) (by kernel_rfl) (fun _ _ _ h => h) (Or.inl ⟨by kernel_rfl, fun W hW => by obtain ⟨x0, x1, x2, x3, x4, x5, x6, -⟩ := FW.out W hW; go_simp; try with_reducible rfl⟩) hF ?_
    go_frame
    refine F_take (i := 11) (d := some 23) (by kernel_rfl) (by kernel_rfl) (by decide) (s' := #[true, true, true, true, true, true, true, false, false, true, true, true, false, false, false, false]) (by kernel_rfl) rfl rfl (by kernel_rfl) (by kernel_rfl) (by kernel_rfl) (fun _ _ _ h => h) (Or.inl ⟨by kernel_rfl, fun W hW => by obtain ⟨x0, x1, x2, x3, x4, x5, x6, -⟩ := FW.out W hW; go_simp; try with_reducible rfl⟩) hF ?_
    go_frame
    refine F_take (i := 12) (d := some 24) (by kernel_rfl) (by kernel_rfl) (by decide) (s' := #[true, true, true, true, true, true, true, false, false, true, true, true, true, false, false, false]) (by kernel_rfl) rfl rfl (by kernel_rfl) (by kernel_rfl) (by kernel_rfl) (fun _ _ _ h => h) (Or.inl ⟨by kernel_rfl, fun W hW => by obtain ⟨x0, x1, x2, x3, x4, x5, x6, -⟩ := FW.out W hW; go_simp; try with_reducible rfl⟩) hF ?_
    go_frame
    refine F_two (i := 7) (si := #[true, true, true, true, true, true, true, true, false, true, true, true, true, false, false, false]) (j := 13) (sj := #[true, true, true, true, true, true, true, false, false, true, true, true, true, true, false, false]) (by kernel_rfl) (by kernel_rfl) (by kernel_rfl) ?_ ?_
    · skip
      obtain ⟨g7, hg7⟩ : ∃ g7, wd.heap.size = g7 := ⟨_, rfl⟩
      obtain ⟨v7w, hv7w⟩ : ∃ v7w, wd.alloc (.cells #[.int .i64 y3, .int .i64 y4, .int .i64 y5] 3) = v7w := ⟨_, rfl⟩
      have hb7 : Below wd.heap.size wd v7w := by rw [← hv7w]; exact below_new _ _
      have R7 : RowsAt 1 icell v7w v7w.heap.size (some ⟨g7, 0, none⟩) [y3, y4, y5] := by rw [← hv7w, ← hg7]; exact ints_new wd 3 [y3, y4, y5]
      have hF := below_trans hF hF.size hb7
      have R0 := rows_keep R0 hb7
      refine wpOp_valueL (i := 7) (d := some 19) (w' := v7w) (v := .slice (some ⟨g7, 0, none⟩) 3 3) rfl rfl (by kernel_rfl) (by go_simp) ⟨fun _ => hF, ?_⟩
      go_frame
      clear hv7w hg7 hb7
      refine F_two (i := 8) (si := #[true, true, true, true, true, true, true, true, true, true, true, true, true, false, false, false]) (j := 13) (sj := #[true, true, true, true, true, true, true, true, false, true, true, true, true, true, false, false]) (by kernel_rfl) (by kernel_rfl) (by kernel_rfl) ?_ ?_
      · skip
        refine wpOp_enterL (i := 8) (d := some 20) (f := 130) (args := #[.slice A L1.length c, .int .i64 4, .slice (some ⟨g7, 0, none⟩) 3 3]) rfl rfl (by kernel_rfl) (by go_simp) ((quadPut A c L1 4 (by decide) (by decide) (some ⟨g7, 0, none⟩) 3 [y3, y4, y5] v7w v7w.heap.size R0 R7 (Nat.le_refl _) (by rw [nL1]; decide) (by simp) L1.length 3 rfl rfl).mono ?_)
        rintro r v8w ⟨v, rfl, hown, hb8⟩
        obtain ⟨M8, hM8⟩ : ∃ M8, L1 ++ [y3, y4, y5].flatMap (beL 4) = M8 := ⟨_, rfl⟩
        rw [hM8] at hown
        have nM8 : M8.length = 16 := by rw [← hM8]; simp [beL_len, nL1]
        obtain ⟨A8, c8, rfl⟩ := hown.shape
        have R8 := (OwnR.rows (C := 1) (cells := bcell) (fun _ => rfl) hown).2
        have hown8 := OwnR.lower hown hF.size
        have hF := below_trans hF hF.size hb8
        have R0 := rows_keep R0 hb8
        have R7 := rows_keep R7 hb8
        refine ⟨_, rfl, fun _ => hF, ?_⟩
        go_frame
        clear hb8 hown
        obtain ⟨g13, hg13⟩ : ∃ g13, v8w.heap.size = g13 := ⟨_, rfl⟩
        obtain ⟨v13w, hv13w⟩ : ∃ v13w, v8w.alloc (.cells #[.int .i64 y6, .int .i64 y7] 3) = v13w := ⟨_, rfl⟩
        have hb13 : Below v8w.heap.size v8w v13w := by rw [← hv13w]; exact below_new _ _
        have R13 : RowsAt 1 icell v13w v13w.heap.size (some ⟨g13, 0, none⟩) [y6, y7] := by rw [← hv13w, ← hg13]; exact ints_new v8w 3 [y6, y7]
        have hF := below_trans hF hF.size hb13
        have R0 := rows_keep R0 hb13
        have R7 := rows_keep R7 hb13
        have R8 := rows_keep R8 hb13
        refine F_one (i := 13) (s' := #[true, true, true, true, true, true, true, true, true, true, true, true, true, true, false, false]) (by kernel_rfl) (by kernel_rfl) (wpOp_valueL (i := 13) (d := some 25) (w' := v13w) (v := .slice (some ⟨g13, 0, none⟩) 2 2) rfl rfl (by kernel_rfl) (by go_simp) ⟨fun _ => hF, ?_⟩)
        go_frame
        clear hv13w hg13 hb13
        refine F_one (i := 14) (s' := #[true, true, true, true, true, true, true, true, true, true, true, true, true, true, true, false]) (by kernel_rfl) (by kernel_rfl) (wpOp_enterL (i := 14) (d := some 26) (f := 130) (args := #[.slice A8 M8.length c8, .int .i64 2, .slice (some ⟨g13, 0, none⟩) 2 2]) rfl rfl (by kernel_rfl) (by go_simp) ((quadPut A8 c8 M8 2 (by decide) (by decide) (some ⟨g13, 0, none⟩) 2 [y6, y7] v13w v13w.heap.size R8 R13 (Nat.le_refl _) (by rw [nM8]; decide) (by simp) M8.length 2 rfl rfl).mono ?_))
        rintro r v14w ⟨v, rfl, hown, hb14⟩
        obtain ⟨M14, hM14⟩ : ∃ M14, M8 ++ [y6, y7].flatMap (beL 2) = M14 := ⟨_, rfl⟩
        rw [hM14] at hown
        have nM14 : M14.length = 20 := by rw [← hM14]; simp [beL_len, nM8]
        obtain ⟨A14, c14, rfl⟩ := hown.shape
        have R14 := (OwnR.rows (C := 1) (cells := bcell) (fun _ => rfl) hown).2
        have hown14 := OwnR.lower hown hF.size
        have hF := below_trans hF hF.size hb14
        have R0 := rows_keep R0 hb14
        have R7 := rows_keep R7 hb14
        have R8 := rows_keep R8 hb14
        have R13 := rows_keep R13 hb14
        refine ⟨_, rfl, fun _ => hF, ?_⟩
        go_frame
        clear hb14 hown
        refine F_one (i := 15) (s' := #[true, true, true, true, true, true, true, true, true, true, true, true, true, true, true, true]) (by kernel_rfl) (by kernel_rfl) (wpOp_valueL (i := 15) (d := some 2) (w' := v14w) (v := .slice A14 M14.length c14) rfl rfl (by kernel_rfl) (by go_simp) ⟨fun h => absurd h (by decide), ?_⟩)
        go_frame
        refine F_done (by kernel_rfl) ?_ _
        subst hM14 hM8
        go_wp2
        go_ret
        refine ⟨_, rfl, ?_, below_trans Hb.out hsz hF⟩
        unfold headL
        rw [HL1.out]
        exact OwnR.lower hown14 hsz
      · skip
        obtain ⟨g13, hg13⟩ : ∃ g13, v7w.heap.size = g13 := ⟨_, rfl⟩
        obtain ⟨v13w, hv13w⟩ : ∃ v13w, v7w.alloc (.cells #[.int .i64 y6, .int .i64 y7] 3) = v13w := ⟨_, rfl⟩
        have hb13 : Below v7w.heap.size v7w v13w := by rw [← hv13w]; exact below_new _ _
        have R13 : RowsAt 1 icell v13w v13w.heap.size (some ⟨g13, 0, none⟩) [y6, y7] := by rw [← hv13w, ← hg13]; exact ints_new v7w 3 [y6, y7]
        have hF := below_trans hF hF.size hb13
        have R0 := rows_keep R0 hb13
        have R7 := rows_keep R7 hb13
        refine wpOp_valueL (i := 13) (d := some 25) (w' := v13w) (v := .slice (some ⟨g13, 0, none⟩) 2 2) rfl rfl (by kernel_rfl) (by go_simp) ⟨fun _ => hF, ?_⟩
        go_frame
        clear hv13w hg13 hb13
        refine F_one (i := 8) (s' := #[true, true, true, true, true, true, true, true, true, true, true, true, true, true, false, false]) (by kernel_rfl) (by kernel_rfl) (wpOp_enterL (i := 8) (d := some 20) (f := 130) (args := #[.slice A L1.length c, .int .i64 4, .slice (some ⟨g7, 0, none⟩) 3 3]) rfl rfl (by kernel_rfl) (by go_simp) ((quadPut A c L1 4 (by decide) (by decide) (some ⟨g7, 0, none⟩) 3 [y3, y4, y5] v13w v13w.heap.size R0 R7 (Nat.le_refl _) (by rw [nL1]; decide) (by simp) L1.length 3 rfl rfl).mono ?_))
        rintro r v8w ⟨v, rfl, hown, hb8⟩
        obtain ⟨M8, hM8⟩ : ∃ M8, L1 ++ [y3, y4, y5].flatMap (beL 4) = M8 := ⟨_, rfl⟩
        rw [hM8] at hown
        have nM8 : M8.length = 16 := by rw [← hM8]; simp [beL_len, nL1]
        obtain ⟨A8, c8, rfl⟩ := hown.shape
        have R8 := (OwnR.rows (C := 1) (cells := bcell) (fun _ => rfl) hown).2
        have hown8 := OwnR.lower hown hF.size
        have hF := below_trans hF hF.size hb8
        have R0 := rows_keep R0 hb8
        have R7 := rows_keep R7 hb8
        have R13 := rows_keep R13 hb8
        refine ⟨_, rfl, fun _ => hF, ?_⟩
        go_frame
        clear hb8 hown
        refine F_one (i := 14) (s' := #[true, true, true, true, true, true, true, true, true, true, true, true, true, true, true, false]) (by kernel_rfl) (by kernel_rfl) (wpOp_enterL (i := 14) (d := some 26) (f := 130) (args := #[.slice A8 M8.length c8, .int .i64 2, .slice (some ⟨g13, 0, none⟩) 2 2]) rfl rfl (by kernel_rfl) (by go_simp) ((quadPut A8 c8 M8 2 (by decide) (by decide) (some ⟨g13, 0, none⟩) 2 [y6, y7] v8w v8w.heap.size R8 R13 (Nat.le_refl _) (by rw [nM8]; decide) (by simp) M8.length 2 rfl rfl).mono ?_))
        rintro r v14w ⟨v, rfl, hown, hb14⟩
        obtain ⟨M14, hM14⟩ : ∃ M14, M8 ++ [y6, y7].flatMap (beL 2) = M14 := ⟨_, rfl⟩
        rw [hM14] at hown
        have nM14 : M14.length = 20 := by rw [← hM14]; simp [beL_len, nM8]
        obtain ⟨A14, c14, rfl⟩ := hown.shape
        have R14 := (OwnR.rows (C := 1) (cells := bcell) (fun _ => rfl) hown).2
        have hown14 := OwnR.lower hown hF.size
        have hF := below_trans hF hF.size hb14
        have R0 := rows_keep R0 hb14
        have R7 := rows_keep R7 hb14
        have R13 := rows_keep R13 hb14
        have R8 := rows_keep R8 hb14
        refine ⟨_, rfl, fun _ => hF, ?_⟩
        go_frame
        clear hb14 hown
        refine F_one (i := 15) (s' := #[true, true, true, true, true, true, true, true, true, true, true, true, true, true, true, true]) (by kernel_rfl) (by kernel_rfl) (wpOp_valueL (i := 15) (d := some 2) (w' := v14w) (v := .slice A14 M14.length c14) rfl rfl (by kernel_rfl) (by go_simp) ⟨fun h => absurd h (by decide), ?_⟩)
        go_frame
        refine F_done (by kernel_rfl) ?_ _
        subst hM14 hM8
        go_wp2
        go_ret
        refine ⟨_, rfl, ?_, below_trans Hb.out hsz hF⟩
        unfold headL
        rw [HL1.out]
        exact OwnR.lower hown14 hsz
    · skip
      obtain ⟨g13, hg13⟩ : ∃ g13, wd.heap.size = g13 := ⟨_, rfl⟩
      obtain ⟨v13w, hv13w⟩ : ∃ v13w, wd.alloc (.cells #[.int .i64 y6, .int .i64 y7] 3) = v13w := ⟨_, rfl⟩
      have hb13 : Below wd.heap.size wd v13w := by rw [← hv13w]; exact below_new _ _
      have R13 : RowsAt 1 icell v13w v13w.heap.size (some ⟨g13, 0, none⟩) [y6, y7] := by rw [← hv13w, ← hg13]; exact ints_new wd 3 [y6, y7]
      have hF := below_trans hF hF.size hb13
      have R0 := rows_keep R0 hb13
      refine wpOp_valueL (i := 13) (d := some 25) (w' := v13w) (v := .slice (some ⟨g13, 0, none⟩) 2 2) rfl rfl (by kernel_rfl) (by go_simp) ⟨fun _ => hF, ?_⟩
      go_frame
      clear hv13w hg13 hb13
      obtain ⟨g7, hg7⟩ : ∃ g7, v13w.heap.size = g7 := ⟨_, rfl⟩
      obtain ⟨v7w, hv7w⟩ : ∃ v7w, v13w.alloc (.cells #[.int .i64 y3, .int .i64 y4, .int .i64 y5] 3) = v7w := ⟨_, rfl⟩
      have hb7 : Below v13w.heap.size v13w v7w := by rw [← hv7w]; exact below_new _ _
      have R7 : RowsAt 1 icell v7w v7w.heap.size (some ⟨g7, 0, none⟩) [y3, y4, y5] := by rw [← hv7w, ← hg7]; exact ints_new v13w 3 [y3, y4, y5]
      have hF := below_trans hF hF.size hb7
      have R0 := rows_keep R0 hb7
      have R13 := rows_keep R13 hb7
      refine F_one (i := 7) (s' := #[true, true, true, true, true, true, true, true, false, true, true, true, true, true, false, false]) (by kernel_rfl) (by kernel_rfl) (wpOp_valueL (i := 7) (d := some 19) (w' := v7w) (v := .slice (some ⟨g7, 0, none⟩) 3 3) rfl rfl (by kernel_rfl) (by go_simp) ⟨fun _ => hF, ?_⟩)
      go_frame
      clear hv7w hg7 hb7
      refine F_one (i := 8) (s' := #[true, true, true, true, true, true, true, true, true, true, true, true, true, true, false, false]) (by kernel_rfl) (by kernel_rfl) (wpOp_enterL (i := 8) (d := some 20) (f := 130) (args := #[.slice A L1.length c, .int .i64 4, .slice (some ⟨g7, 0, none⟩) 3 3]) rfl rfl (by kernel_rfl) (by go_simp) ((quadPut A c L1 4 (by decide) (by decide) (some ⟨g7, 0, none⟩) 3 [y3, y4, y5] v7w v7w.heap.size R0 R7 (Nat.le_refl _) (by rw [nL1]; decide) (by simp) L1.length 3 rfl rfl).mono ?_))
      rintro r v8w ⟨v, rfl, hown, hb8⟩
      obtain ⟨M8, hM8⟩ : ∃ M8, L1 ++ [y3, y4, y5].flatMap (beL 4) = M8 := ⟨_, rfl⟩
      rw [hM8] at hown
      have nM8 : M8.length = 16 := by rw [← hM8]; simp [beL_len, nL1]
      obtain ⟨A8, c8, rfl⟩ := hown.shape
      have R8 := (OwnR.rows (C := 1) (cells := bcell) (fun _ => rfl) hown).2
      have hown8 := OwnR.lower hown hF.size
      have hF := below_trans hF hF.size hb8
      have R0 := rows_keep R0 hb8
      have R13 := rows_keep R13 hb8
      have R7 := rows_keep R7 hb8
      refine ⟨_, rfl, fun _ => hF, ?_⟩
      go_frame
      clear hb8 hown
      refine F_one (i := 14) (s' := #[true, true, true, true, true, true, true, true, true, true, true, true, true, true, true, false]) (by kernel_rfl) (by kernel_rfl) (wpOp_enterL (i := 14) (d := some 26) (f := 130) (args := #[.slice A8 M8.length c8, .int .i64 2, .slice (some ⟨g13, 0, none⟩) 2 2]) rfl rfl (by kernel_rfl) (by go_simp) ((quadPut A8 c8 M8 2 (by decide) (by decide) (some ⟨g13, 0, none⟩) 2 [y6, y7] v8w v8w.heap.size R8 R13 (Nat.le_refl _) (by rw [nM8]; decide) (by simp) M8.length 2 rfl rfl).mono ?_))
      rintro r v14w ⟨v, rfl, hown, hb14⟩
      obtain ⟨M14, hM14⟩ : ∃ M14, M8 ++ [y6, y7].flatMap (beL 2) = M14 := ⟨_, rfl⟩
      rw [hM14] at hown
      have nM14 : M14.length = 20 := by rw [← hM14]; simp [beL_len, nM8]
      obtain ⟨A14, c14, rfl⟩ := hown.shape
      have R14 := (OwnR.rows (C := 1) (cells := bcell) (fun _ => rfl) hown).2
      have hown14 := OwnR.lower hown hF.size
      have hF := below_trans hF hF.size hb14
      have R0 := rows_keep R0 hb14
      have R13 := rows_keep R13 hb14
      have R7 := rows_keep R7 hb14
      have R8 := rows_keep R8 hb14
      refine ⟨_, rfl, fun _ => hF, ?_⟩
      go_frame
      clear hb14 hown
      refine F_one (i := 15) (s' := #[true, true, true, true, true, true, true, true, true, true, true, true, true, true, true, true]) (by kernel_rfl) (by kernel_rfl) (wpOp_valueL (i := 15) (d := some 2) (w' := v14w) (v := .slice A14 M14.length c14) rfl rfl (by kernel_rfl) (by go_simp) ⟨fun h => absurd h (by decide), ?_⟩)
      go_frame
      refine F_done (by kernel_rfl) ?_ _
      subst hM14 hM8
      go_wp2
      go_ret
      refine ⟨_, rfl, ?_, below_trans Hb.out hsz hF⟩
      unfold headL
      rw [HL1.out]
      exact OwnR.lower hown14 hsz

end Go.Proofs.YtpnbibokddhheaaGreat
