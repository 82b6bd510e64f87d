/-
  The law GraphLost: its walk.
-/
import Derived.Test.YtpfjgecdlilkcaaGrWakes
import Derived.Test.YtpfjgecdlilkcaaGrSet
import Derived.Test.YtpfjgecdlilkcaaGrSame
import Derived.Test.YtpfjgecdlilkcaaGrRefE
import Derived.Test.YtpfjgecdlilkcaaLsMany
import Derived.Test.YtpfjgecdlilkcaaRegionG
import Derived.Test.YtpfjgecdlilkcaaRegionP
namespace Go.Proofs.Ytpfjgecdlilkcaa
open Go.RowKit Go.Sort

theorem edges_lenL (l : List VX) : (edgesV l).length ≤ 2000 := by
  unfold edgesV
  rw [edges_pre, List.length_append]
  have h1 := preA_len (costC (countsV l)) 15
  have h2 := preB_len (costC (countsV l)) 64
  omega
set_option maxHeartbeats 16000000 in
set_option maxRecDepth 100000 in
theorem graphLost_any (A : Option Addr) (cap : Nat) (l : List Lsa) (a : Nat) (ha : a ≤ 255) (b : Nat) (hbb : b ≤ 255) (w : World) (hl : LsasAt w w.heap.size A l) (hm : l.length ≤ maxLen) (hcap : l.length ≤ cap) (hmc : ∀ x ∈ l, x.members.length ≤ x.mcap) :
    Calls Try.prog 3 #[.slice A l.length cap, .int .u8 a, .int .u8 b] w fun r w' => r = .returned (.bool true) ∧ Below w.heap.size w w' := by
  have HL := Lib.hid hl
  obtain ⟨t, ht⟩ : ∃ t, manyB 40 l = t := ⟨_, rfl⟩
  have HMany := Lib.hid (fun W (hW : Below w.heap.size w W) => many20 A cap l W w.heap.size (hl.rows.below hW) hW.size hm l.length rfl ht)
  have Ht := Lib.hid ht
  have Hcap := Lib.hid hcap
  have Hmc := Lib.hid hmc
  obtain ⟨g0, hg0⟩ : ∃ g0, w.heap.size = g0 := ⟨_, rfl⟩
  have Hg0 := Lib.hid hg0
  clear hl hm ht hcap hmc hg0
  go_enter Try.func3, Try.ntmps3
  go_wp2_with fail
  with_reducible refine Calls.mono (wakes20 _) ?_
  rintro r w1 ⟨rfl, hb1⟩
  have B1 := Lib.hid hb1
  clear hb1
  go_wp2_with fail
  with_reducible refine Calls.mono (HMany.out _ B1.out) ?_
  rintro r w2 ⟨rfl, hb2⟩
  have B2 := Lib.hid (below_trans B1.out B1.out.size hb2)
  clear hb2
  cases t with
  | true =>
    go_wp2
    go_ret
    exact ⟨rfl, B2.out⟩
  | false =>
    by_cases hl0 : (l.length : Int) = 0
    · go_wp2
      go_ret
      exact ⟨rfl, B2.out⟩
    · obtain ⟨hl40, hlens0⟩ := manyB_lens Ht.out
      have Hlens := Lib.hid hlens0
      have hpos : 0 < l.length := by omega
      obtain ⟨kk, hkk⟩ : ∃ kk, a % l.length = kk := ⟨_, rfl⟩
      have hrem : Int.tmod (a : Int) (l.length : Int) = (kk : Int) := by
        rw [Int.tmod_eq_emod_of_nonneg (by omega), ← hkk]
        exact_mod_cast rfl
      have hkl : kk < l.length := by rw [← hkk]; exact Nat.mod_lt a hpos
      have hli : (l.length : Int) ≤ 40 := by omega
      have hki : (kk : Int) < (l.length : Int) := by omega
      have hai : (a : Int) ≤ 255 := by omega
      have hbi : (b : Int) ≤ 255 := by omega
      have Hkl := Lib.hid hkl
      have Hl40 := Lib.hid hl40
      have hci : (l.length : Int) ≤ (cap : Int) := by have := Hcap.out; omega
      obtain ⟨g, o, hA, -, x0, x1, x2, x3, x4, x5, x6, x7, x8⟩ := row_lsa9b (HL.out.rows.below B2.out) kk hkl
      obtain ⟨x, hx⟩ : ∃ x, l[kk]'hkl = x := ⟨_, rfl⟩
      rw [hx] at x0 x1 x2 x3 x4 x5 x6 x7 x8
      have Hok := Lib.hid (show Lsa.ok w w.heap.size x by rw [← hx]; exact HL.out.each _ (List.getElem_mem hkl))
      have Hxc := Lib.hid (show x.members.length ≤ x.mcap by rw [← hx]; exact Hmc.out _ (List.getElem_mem hkl))
      have Hxl := Lib.hid (show x.links.length ≤ 20 ∧ x.members.length ≤ 20 by rw [← hx]; exact hlens0 _ (List.getElem_mem hkl))
      have Hx := Lib.hid (show ∃ h : kk < l.length, l[kk]'h = x from ⟨hkl, hx⟩)
      obtain ⟨⟨y1, y2, y3, y4, y5, y6, y7⟩, ka, kc, ls, ma, mc, ms⟩ := x
      simp only at x0 x1 x2 x3 x4 x5 x6 x7 x8
      obtain ⟨nl, hnl⟩ : ∃ nl, ls.length = nl := ⟨_, rfl⟩
      obtain ⟨nm, hnm⟩ : ∃ nm, ms.length = nm := ⟨_, rfl⟩
      rw [hnl] at x7
      rw [hnm] at x8
      have Hnl := Lib.hid hnl
      have Hnm := Lib.hid hnm
      subst hA
      obtain ⟨w3, hw3⟩ : ∃ w3, w2.alloc (.cells #[.int .i64 y1, .int .i64 y2, .int .i64 y3, .int .i64 y4, .int .i64 y5, .int .i64 y6, .int .i64 y7, .slice ka nl kc, .slice ma nm mc] 30) = w3 := ⟨_, rfl⟩
      obtain ⟨g3, hg3⟩ : ∃ g3, w2.heap.size = g3 := ⟨_, rfl⟩
      have hk3 := Blk.new w2 30 #[.int .i64 y1, .int .i64 y2, .int .i64 y3, .int .i64 y4, .int .i64 y5, .int .i64 y6, .int .i64 y7, .slice ka nl kc, .slice ma nm mc]
      have hb3 := below_new w2 (.cells #[.int .i64 y1, .int .i64 y2, .int .i64 y3, .int .i64 y4, .int .i64 y5, .int .i64 y6, .int .i64 y7, .slice ka nl kc, .slice ma nm mc] 30)
      rw [hw3, hg3] at hk3
      rw [hw3] at hb3
      have Kn3 := Lib.hid hk3
      have B3 := Lib.hid (below_trans B2.out B2.out.size hb3)
      obtain ⟨tr, htr⟩ : ∃ t, rightB (⟨⟨y1, y2, y3, y4, y5, y6, y7⟩, ka, kc, ls, ma, mc, ms⟩ : Lsa) = t := ⟨_, rfl⟩
      have HRight := Lib.hid (refRight_any y1 y2 y3 y4 y5 y6 y7 ka kc ls ma mc ms w3 w.heap.size (Hok.out.links.below B3.out) (Hok.out.members.below B3.out) B3.out.size Hok.out.linksLen Hok.out.membersLen nl nm hnl.symm hnm.symm htr)
      have Htr := Lib.hid htr
      clear hl40 hlens0 hpos hkk hkl hx hnl hnm hk3 hb3 htr
      obtain ⟨z0, z1, z2, z3, z4, z5, z6, z7, z8, zf⟩ := blk9 Kn3.out
      go_wp2_with fail
      clear x0 x1 x2 x3 x4 x5 x6 x7 x8 z0 z1 z2 z3 z4 z5 z6 z7 z8 zf
      with_reducible refine Calls.mono HRight.out ?_
      rintro r w4 ⟨rfl, hb4⟩
      have K4 := Lib.hid (Kn3.out.below hb4 Kn3.out.lt)
      have B4 := Lib.hid (below_trans B3.out B3.out.size hb4)
      clear hb4 hw3
      obtain ⟨z0, z1, z2, z3, z4, z5, z6, z7, z8, zf⟩ := blk9 K4.out
      cases tr with
      | false =>
        go_wp2
        go_ret
        exact ⟨rfl, B4.out⟩
      | true =>
        by_cases hk2 : y2 = 2
        · subst hk2
          by_cases hm2 : (nm : Int) < 2
          · go_wp2
            go_ret
            exact ⟨rfl, B4.out⟩
          · have hnm20 : nm ≤ 20 := by have := Hxl.out; have := Hnm.out; omega
            have hnm2 : 2 ≤ nm := by omega
            have hne0 : ¬ ((nm : Int) = 0) := by omega
            obtain ⟨ii, hii⟩ : ∃ ii, b % nm = ii := ⟨_, rfl⟩
            have hrem2 : Int.tmod (b : Int) (nm : Int) = (ii : Int) := by
              rw [Int.tmod_eq_emod_of_nonneg (by omega), ← hii]
              exact_mod_cast rfl
            have hil : ii < nm := by rw [← hii]; exact Nat.mod_lt b (by omega)
            have hii1 : (ii : Int) < (nm : Int) := by omega
            have hni : (nm : Int) ≤ 20 := by omega
            have hmci : (nm : Int) ≤ (mc : Int) := by have := Hxc.out; have := Hnm.out; omega
            have hil2 : ii < ms.length := by rw [Hnm.out]; exact hil
            obtain ⟨gm, om, hMa, -, hcm⟩ := (Hok.out.members.below B4.out) (by simp only; omega)
            simp only at hMa hcm
            subst hMa
            have xm := hcm ii (by omega) 0 (.int .i64 ms[ii]) (by omega) rfl
            simp only [Nat.add_zero, Nat.mul_one] at xm
            obtain ⟨lost, hlost⟩ : ∃ z, ms[ii]'hil2 = z := ⟨_, rfl⟩
            rw [hlost] at xm
            have Hlost := Lib.hid (show ∃ h : ii < ms.length, ms[ii]'h = lost from ⟨hil2, hlost⟩)
            have Hil := Lib.hid hil2
            have Hnm2 := Lib.hid hnm2
            have Hnm20 := Lib.hid hnm20
            have HE0 : Hid (OwnR 30 9 Lsa.cells (w4.alloc (.cells #[] 30)) w4.heap.size (.slice (some ⟨w4.heap.size, 0, none⟩) 0 0) ([] : List Lsa)) := Lib.hid (own_empty _)
            have Hba := Lib.hid (below_new w4 (.cells #[] 30))
            have HR := Lib.hid (show RowsAt 9 Lsa.cells (w4.alloc (.cells #[] 30)) (w4.alloc (.cells #[] 30)).heap.size (some ⟨g, o, none⟩) l by
              have h := (HL.out.rows.below (below_trans B4.out B4.out.size Hba.out)).more (below_trans B4.out B4.out.size Hba.out).size
              exact h)
            clear hii hil hil2 hcm hlost hnm20
            go_wp2_with (at_builtin; (refine app_rows (e := 30) Lsa.cells (fun _ => rfl) (by decide) (bytes := 104) (by decide) infoX rfl Try.underlying22 onesX (by rfl) _ _ (by rfl) w4.heap.size _ [] (by rfl) HE0.out (some ⟨g, o, none⟩) cap l.length l rfl (by rfl) HR.out (by have := Hl40.out; simp; omega) Hba.out.size ?_); intro v5 w5 hown5 hg5 hor5; rw [List.nil_append] at hown5; obtain ⟨A5, c5, hv5⟩ := hown5.shape; subst hv5; have HO5 := Lib.hid hown5; have Hb5 := Lib.hid ((Below.refl w4.heap.size w4).alloc (Nat.le_refl _) (.cells #[] 30) |>.grown hg5 (Nat.le_trans (Nat.le_refl _) Hba.out.size) (fun m e => (HE0.out.block m e).1)); have K5 := Lib.hid (K4.out.below Hb5.out K4.out.lt); clear hown5 hg5 hor5 z0 z1 z2 z3 z4 z5 z6 z7 z8 zf xm)
            have hii2 : ii < nm := by omega
            have Hii := Lib.hid hii2
            have HTk := Lib.hid (show ii = (ms.take ii).length by rw [List.length_take, Hnm.out]; omega)
            have HDr := Lib.hid (show nm - (ii + 1) = (ms.drop (ii + 1)).length by rw [List.length_drop, Hnm.out])
            have HMs := Lib.hid (fun W (hW : Below w5.heap.size w5 W) => ((Hok.out.members.below (below_trans B4.out B4.out.size (below_trans Hb5.out Hb5.out.size hW))).more (below_trans B4.out B4.out.size (below_trans Hb5.out Hb5.out.size hW)).size))
            obtain ⟨g5, hg5⟩ : ∃ g5, A5 = some ⟨g5, 0, none⟩ := by
              rcases HO5.out.shape2 with ⟨-, hn⟩ | ⟨g5, c, hv, -⟩
              · subst hn; simp at hl0
              · injection hv with e1 e2 e3
                exact ⟨g5, e1⟩
            subst hg5
            have hii3 : (ii : Int) + 1 ≤ (nm : Int) := by omega
            have hii4 : (ii : Int) ≤ 20 := by omega
            have hn1 : ii ≤ mc := by omega
            have hn2 : ii + 1 ≤ nm := by omega
            have hn3 : nm ≤ mc := by omega
            have Hmcn := Lib.hid hn3
            have hii5 : 0 ≤ (ii : Int) + 1 := by omega
            have hwr : IntKind.i64.wrap ((ii : Int) + 1) = ((ii + 1 : Nat) : Int) := by
              rw [IntWalk.i64_in _ (by omega)]
              rfl
            clear hii2
            go_wp2_with fail
            refine wp_region_F (F := fun W => Below w5.heap.size w5 W) (n := 16) (m := 17) (s := #[false, false, false, false, false, false, false, false, false, false, false, false, false, false, false, false, false]) (by kernel_rfl) (by kernel_rfl) (by kernel_rfl) ?_
            intro wd hwd
            have hF : Below w5.heap.size w5 wd := by rw [hwd.out]; exact (Below.refl _ _).drew
            clear hwd
            refine F_take (i := 0) (d := some 68) (by kernel_rfl) (by kernel_rfl) (by decide) (s' := #[true, false, false, false, false, false, false, false, false, false, false, false, false, false, false, false, false]) (by kernel_rfl) rfl rfl (by kernel_rfl) (by kernel_rfl) (by kernel_rfl) (fun _ _ _ h => h) (Or.inl ⟨by kernel_rfl, fun W hW => by obtain ⟨g0c, g1c, g2c, g3c, g4c, g5c, g6c, g7c, g8c, -⟩ := blk9 (K5.out.below hW K5.out.lt); go_simp; try with_reducible rfl⟩) hF ?_
            go_frame
            refine F_take (i := 1) (d := some 69) (by kernel_rfl) (by kernel_rfl) (by decide) (s' := #[true, true, false, false, false, false, false, false, false, false, false, false, false, false, false, false, false]) (by kernel_rfl) rfl rfl (by kernel_rfl) (by kernel_rfl) (by kernel_rfl) (fun _ _ _ h => h) (Or.inl ⟨by kernel_rfl, fun W hW => by obtain ⟨g0c, g1c, g2c, g3c, g4c, g5c, g6c, g7c, g8c, -⟩ := blk9 (K5.out.below hW K5.out.lt); go_simp; try with_reducible rfl⟩) hF ?_
            go_frame
            refine F_take (i := 3) (d := some 71) (by kernel_rfl) (by kernel_rfl) (by decide) (s' := #[true, true, false, true, false, false, false, false, false, false, false, false, false, false, false, false, false]) (by kernel_rfl) rfl rfl (by kernel_rfl) (by kernel_rfl) (by kernel_rfl) (fun _ _ _ h => h) (Or.inl ⟨by kernel_rfl, fun W hW => by obtain ⟨g0c, g1c, g2c, g3c, g4c, g5c, g6c, g7c, g8c, -⟩ := blk9 (K5.out.below hW K5.out.lt); go_simp; try with_reducible rfl⟩) hF ?_
            go_frame
            refine F_take (i := 4) (d := some 72) (by kernel_rfl) (by kernel_rfl) (by decide) (s' := #[true, true, false, true, true, false, false, false, false, false, false, false, false, false, false, false, false]) (by kernel_rfl) rfl rfl (by kernel_rfl) (by kernel_rfl) (by kernel_rfl) (fun _ _ _ h => h) (Or.inl ⟨by kernel_rfl, fun W hW => by obtain ⟨g0c, g1c, g2c, g3c, g4c, g5c, g6c, g7c, g8c, -⟩ := blk9 (K5.out.below hW K5.out.lt); go_simp; try with_reducible rfl⟩) hF ?_
            go_frame
            refine F_take (i := 5) (d := some 73) (by kernel_rfl) (by kernel_rfl) (by decide) (s' := #[true, true, false, true, true, true, false, false, false, false, false, false, false, false, false, false, false]) (by kernel_rfl) rfl rfl (by kernel_rfl) (by kernel_rfl) (by kernel_rfl) (fun _ _ _ h => h) (Or.inl ⟨by kernel_rfl, fun W hW => by obtain ⟨g0c, g1c, g2c, g3c, g4c, g5c, g6c, g7c, g8c, -⟩ := blk9 (K5.out.below hW K5.out.lt); go_simp; try with_reducible rfl⟩) hF ?_
            go_frame
            refine F_take (i := 6) (d := some 74) (by kernel_rfl) (by kernel_rfl) (by decide) (s' := #[true, true, false, true, true, true, true, false, false, false, false, false, false, false, false, false, false]) (by kernel_rfl) rfl rfl (by kernel_rfl) (by kernel_rfl) (by kernel_rfl) (fun _ _ _ h => h) (Or.inl ⟨by kernel_rfl, fun W hW => by obtain ⟨g0c, g1c, g2c, g3c, g4c, g5c, g6c, g7c, g8c, -⟩ := blk9 (K5.out.below hW K5.out.lt); go_simp; try with_reducible rfl⟩) hF ?_
            go_frame
            refine F_take (i := 8) (d := some 76) (by kernel_rfl) (by kernel_rfl) (by decide) (s' := #[true, true, false, true, true, true, true, false, true, false, false, false, false, false, false, false, false]) (by kernel_rfl) rfl rfl (by kernel_rfl) (by kernel_rfl) (by kernel_rfl) (fun _ _ _ h => h) (Or.inl ⟨by kernel_rfl, fun W hW => by obtain ⟨g0c, g1c, g2c, g3c, g4c, g5c, g6c, g7c, g8c, -⟩ := blk9 (K5.out.below hW K5.out.lt); go_simp; try with_reducible rfl⟩) hF ?_
            go_frame
            refine F_take (i := 9) (d := some 77) (by kernel_rfl) (by kernel_rfl) (by decide) (s' := #[true, true, false, true, true, true, true, false, true, true, false, false, false, false, false, false, false]) (by kernel_rfl) rfl rfl (by kernel_rfl) (by kernel_rfl) (by kernel_rfl) (fun _ _ _ h => h) (Or.inl ⟨by kernel_rfl, fun W hW => by obtain ⟨g0c, g1c, g2c, g3c, g4c, g5c, g6c, g7c, g8c, -⟩ := blk9 (K5.out.below hW K5.out.lt); go_simp; try with_reducible rfl⟩) hF ?_
            go_frame
            refine F_take (i := 10) (d := some 78) (by kernel_rfl) (by kernel_rfl) (by decide) (s' := #[true, true, false, true, true, true, true, false, true, true, true, false, false, false, false, false, false]) (by kernel_rfl) rfl rfl (by kernel_rfl) (by kernel_rfl) (by kernel_rfl) (fun _ _ _ h => h) (Or.inl ⟨by kernel_rfl, fun W hW => by obtain ⟨g0c, g1c, g2c, g3c, g4c, g5c, g6c, g7c, g8c, -⟩ := blk9 (K5.out.below hW K5.out.lt); go_simp; try with_reducible rfl⟩) hF ?_
            go_frame
            refine F_take (i := 11) (d := some 79) (by kernel_rfl) (by kernel_rfl) (by decide) (s' := #[true, true, false, true, true, true, true, false, true, true, true, true, false, false, false, false, false]) (by kernel_rfl) rfl rfl (by kernel_rfl) (by kernel_rfl) (by kernel_rfl) (fun _ _ _ h => h) (Or.inl ⟨by kernel_rfl, fun W hW => by obtain ⟨g0c, g1c, g2c, g3c, g4c, g5c, g6c, g7c, g8c, -⟩ := blk9 (K5.out.below hW K5.out.lt); go_simp; try with_reducible rfl⟩) hF ?_
            go_frame
            refine F_take (i := 12) (d := some 80) (by kernel_rfl) (by kernel_rfl) (by decide) (s' := #[true, true, false, true, true, true, true, false, true, true, true, true, true, false, false, false, false]) (by kernel_rfl) rfl rfl (by kernel_rfl) (by kernel_rfl) (by kernel_rfl) (fun _ _ _ h => h) (Or.inl ⟨by kernel_rfl, fun W hW => by obtain ⟨g0c, g1c, g2c, g3c, g4c, g5c, g6c, g7c, g8c, -⟩ := blk9 (K5.out.below hW K5.out.lt); go_simp; try with_reducible rfl⟩) hF ?_
            go_frame
            obtain ⟨LO, hLO⟩ : ∃ A, (if mc = ii + 1 then (some ⟨gm, om, none⟩ : Option Addr) else some ⟨gm, om + (ii + 1), none⟩) = A := ⟨_, rfl⟩
            rw [hLO]
            have HLO := Lib.hid hLO
            clear hLO
            refine F_one (i := 2) (s' := #[true, true, true, true, true, true, true, false, true, true, true, true, true, false, false, false, false]) (by kernel_rfl) (by kernel_rfl) ?_
            obtain ⟨va, hva⟩ : ∃ v, wd.alloc (.cells #[] 3) = v := ⟨_, rfl⟩
            have hb := below_new wd (.cells #[] 3)
            rw [hva] at hb
            have oE : OwnR 3 1 icell va w5.heap.size (.slice (some ⟨wd.heap.size, 0, none⟩) 0 0) ([] : List Int) := by rw [← hva]; exact (own_empty wd).lower hF.size
            obtain ⟨e0, he0⟩ : ∃ e, wd.heap.size = e := ⟨_, rfl⟩
            rw [he0] at oE
            have hF := below_trans hF hF.size hb
            refine wpOp_valueL (i := 2) (d := some 70) (w' := va) (v := .slice (some ⟨e0, 0, none⟩) 0 0) rfl rfl (by kernel_rfl) (by go_simp) ⟨fun _ => hF, ?_⟩
            go_frame
            clear hb hva he0
            refine F_one (i := 7) (s' := #[true, true, true, true, true, true, true, true, true, true, true, true, true, false, false, false, false]) (by kernel_rfl) (by kernel_rfl) ?_
            obtain ⟨v7, vb, hrun, o7, hg7, hor7⟩ := app_rows_run (e := 3) (sl := 28) icell (fun _ => rfl) (by decide) (bytes := 8) (by decide) infoInt' rfl Try.underlying28 onesI (w := va) 28 w5.heap.size _ [] oE (some ⟨gm, om, none⟩) mc ii (ms.take ii) (HTk.out) (rows_take (HMs.out va hF) ii) (by have := HTk.out; have := Hii.out; simp only [List.length_nil]; omega) hF.size
            have hF := hF.grown hg7 hF.size (fun m e => (oE.block m e).1)
            refine wpOp_appendL (i := 7) (d := some 75) (t := 28) rfl rfl rfl (by kernel_rfl) rfl (by rfl) (by rfl) hrun ⟨fun _ => hF, ?_⟩
            go_frame
            clear hrun hg7 hor7 oE
            refine F_one (i := 13) (s' := #[true, true, true, true, true, true, true, true, true, true, true, true, true, true, false, false, false]) (by kernel_rfl) (by kernel_rfl) ?_
            obtain ⟨v13, vc, hrun, o13, hg13, hor13⟩ := app_rows_run (e := 3) (sl := 28) icell (fun _ => rfl) (by decide) (bytes := 8) (by decide) infoInt' rfl Try.underlying28 onesI (w := vb) 28 w5.heap.size v7 _ o7 LO (mc - (ii + 1)) (nm - (ii + 1)) (ms.drop (ii + 1)) (HDr.out) (by rw [← HLO.out]; exact rows_lo1 (HMs.out vb hF) (ii + 1) Hnm.out.symm Hmcn.out) (by rw [List.nil_append]; have := HTk.out; have := HDr.out; have := Hnm20.out; have := Hii.out; omega) hF.size
            have hF := hF.grown hg13 hF.size (fun m e => (o7.block m e).1)
            refine wpOp_appendL (i := 13) (d := some 81) (t := 28) rfl rfl rfl (by kernel_rfl) rfl (by rfl) (by rfl) hrun ⟨fun _ => hF, ?_⟩
            go_frame
            rw [less_words] at o13
            obtain ⟨A6, c6, hv6⟩ := o13.shape
            subst hv6
            clear hrun hg13 hor13 o7
            obtain ⟨M6, hM6⟩ : ∃ M, ms.eraseIdx ii = M := ⟨_, rfl⟩
            rw [hM6] at o13
            rw [hM6]
            refine F_take (i := 14) (d := some 82) (by kernel_rfl) (by kernel_rfl) (by decide) (s' := #[true, true, true, true, true, true, true, true, true, true, true, true, true, true, true, false, false]) (by kernel_rfl) rfl rfl (by kernel_rfl) (by kernel_rfl) (by kernel_rfl) (fun _ _ _ h => h) (Or.inl ⟨by kernel_rfl, fun W hW => by obtain ⟨g0c, g1c, g2c, g3c, g4c, g5c, g6c, g7c, g8c, -⟩ := blk9 (K5.out.below hW K5.out.lt); go_simp; try with_reducible rfl⟩) hF ?_
            go_frame
            refine F_take (i := 15) (d := some 83) (by kernel_rfl) (by kernel_rfl) (by decide) (s' := #[true, true, true, true, true, true, true, true, true, true, true, true, true, true, true, true, false]) (by kernel_rfl) rfl rfl (by kernel_rfl) (by kernel_rfl) (by kernel_rfl) (fun _ _ _ h => h) (Or.inl ⟨by kernel_rfl, fun W hW => by obtain ⟨g0c, g1c, g2c, g3c, g4c, g5c, g6c, g7c, g8c, -⟩ := blk9 (K5.out.below hW K5.out.lt); go_simp; try with_reducible rfl⟩) hF ?_
            go_frame
            refine F_one (i := 16) (s' := #[true, true, true, true, true, true, true, true, true, true, true, true, true, true, true, true, true]) (by kernel_rfl) (by kernel_rfl) ?_
            obtain ⟨hkl, hx⟩ := Hx.out
            obtain ⟨g', c', hv', -, -, -, -, -, -, -, -, xs8⟩ := row_at (HO5.out.below hF) kk hkl
            have hgg : g' = g5 := by
              injection hv' with e1 _ _
              injection e1 with e1
              injection e1 with e1
              exact e1.symm
            rw [hgg] at xs8
            clear hv' hgg
            have jf := OwnX.frozen8 (HO5.out.below hF) (kk * 9 + 8)
            refine wpOp_skipL (i := 16) (w' := vc.setCell ⟨g5, kk * 9 + 8, none⟩ (.slice A6 M6.length c6)) rfl rfl (by kernel_rfl) (by go_simp) ⟨fun h => absurd h (by decide), ?_⟩
            go_frame
            refine F_done (by kernel_rfl) ?_ _
            have hO := OwnX.set8 (HO5.out.below hF) rfl kk hkl A6 c6 M6
            have hg5 : w4.heap.size ≤ g5 ∧ g5 < w5.heap.size := HO5.out.block g5 rfl
            have hbd : Below w4.heap.size w4 (vc.setCell ⟨g5, kk * 9 + 8, none⟩ (.slice A6 M6.length c6)) := (below_trans Hb5.out Hb5.out.size hF).setCell (p := ⟨g5, kk * 9 + 8, none⟩) hg5.1 _
            have o6 := o13.set_ (p := ⟨g5, kk * 9 + 8, none⟩) hg5.2 (.slice A6 M6.length c6)
            obtain ⟨vd, hvd⟩ : ∃ v, vc.setCell ⟨g5, kk * 9 + 8, none⟩ (.slice A6 M6.length c6) = v := ⟨_, rfl⟩
            rw [hvd] at hO hbd o6
            rw [hvd]
            obtain ⟨LI, hLI⟩ : ∃ L, l.set kk (l[kk].with_ A6 c6 M6) = L := ⟨_, rfl⟩
            have hwords := set_words l kk hkl A6 c6 M6 ii (by rw [hx]; exact hM6.symm)
            have hLIl : LI.length = l.length := by rw [← hLI, List.length_set]
            have hsplit := split_words l kk hkl
            rw [hLI] at hO hwords
            rw [hx] at hwords hsplit
            have hBd := below_trans B4.out B4.out.size hbd
            have hLmem : ∀ x ∈ LI, x ∈ l ∨ x = (l[kk]'hkl).with_ A6 c6 M6 := fun x hxm => by rw [← hLI] at hxm; exact List.mem_or_eq_of_mem_set hxm
            have hM6l : M6.length ≤ 1000 := by rw [← hM6, List.length_eraseIdx]; have := Hnm.out; have := Hnm20.out; split <;> omega
            obtain ⟨hil, hlost⟩ := Hlost.out
            have hlaw := lost_edges ((l.map vX).take kk) ((l.map vX).drop (kk + 1)) (x := vX (⟨⟨y1, 2, y3, y4, y5, y6, y7⟩, ka, kc, ls, some ⟨gm, om, none⟩, mc, ms⟩ : Lsa)) (i := ii) hil (by show 2 ≤ ms.length; rw [Hnm.out]; exact Hnm2.out) rfl (by rw [rightB_v]; exact Htr.out)
            rw [← hwords, ← hsplit] at hlaw
            obtain ⟨E0, hE0⟩ : ∃ E, edgesV (l.map vX) = E := ⟨_, rfl⟩
            obtain ⟨E1, hE1⟩ : ∃ E, edgesV (LI.map vX) = E := ⟨_, rfl⟩
            rw [hE0, hE1] at hlaw
            have hlaw2 : ((cntV (vX (⟨⟨y1, 2, y3, y4, y5, y6, y7⟩, ka, kc, ls, some ⟨gm, om, none⟩, mc, ms⟩ : Lsa)) = false ∨ hasV (countsV ((l.take kk).map vX)) (⟨2, y3, y4⟩ : K3) = true) → E1 = E0) ∧ ((cntV (vX (⟨⟨y1, 2, y3, y4, y5, y6, y7⟩, ka, kc, ls, some ⟨gm, om, none⟩, mc, ms⟩ : Lsa)) = true ∧ hasV (countsV ((l.take kk).map vX)) (⟨2, y3, y4⟩ : K3) = false) → E1 = E0.filter (offE lost y3)) := by
              rw [List.map_take, ← hlost]
              exact hlaw
            have HLaw := Lib.hid hlaw2
            have HE0l := Lib.hid (show E0.length ≤ 2000 by rw [← hE0]; exact edges_lenL _)
            have hlen1 : ∀ x ∈ l, x.links.length ≤ 1000 ∧ x.members.length ≤ 1000 := fun x hx => by have := Hlens.out x hx; omega
            have hin : ∀ W, Below vd.heap.size vd W → Below w.heap.size w W := fun W hW => below_trans hBd hBd.size hW
            have hel : ∀ W, Below vd.heap.size vd W → ∀ x ∈ l, RowsAt 4 Lnk.cells W W.heap.size x.ka x.links ∧ RowsAt 1 icell W W.heap.size x.ma x.members := fun W hW x hx => ⟨((HL.out.each x hx).links.below (hin W hW)).more (hin W hW).size, ((HL.out.each x hx).members.below (hin W hW)).more (hin W hW).size⟩
            have hrl : ∀ W, Below vd.heap.size vd W → RowsAt 9 Lsa.cells W W.heap.size (some ⟨g, o, none⟩) l := fun W hW => (HL.out.rows.below (hin W hW)).more (hin W hW).size
            have HT0 := Lib.hid (show ∀ W, Below vd.heap.size vd W → Calls Try.prog 15 #[.slice (some ⟨g, o, none⟩) l.length cap] W fun r w' => (∃ v, r = .returned v ∧ OwnR 42 5 Ed.cells w' W.heap.size v E0) ∧ Below W.heap.size W w' from fun W hW => by
              rw [← hE0]
              exact Edges_any (some ⟨g, o, none⟩) cap l W (hrl W hW) (hel W hW) hlen1 (by have := Hl40.out; omega) l.length rfl)
            have HT1 := Lib.hid (show ∀ W, Below vd.heap.size vd W → Calls Try.prog 15 #[.slice (some ⟨g5, 0, none⟩) l.length c5] W fun r w' => (∃ v, r = .returned v ∧ OwnR 42 5 Ed.cells w' W.heap.size v E1) ∧ Below W.heap.size W w' from fun W hW => by
              rw [← hE1]
              refine Edges_any (some ⟨g5, 0, none⟩) c5 LI W (OwnR.rows (C := 9) (cells := Lsa.cells) (fun _ => rfl) (hO.below hW)).2 (fun x hxm => ?_) (fun x hxm => ?_) (by rw [hLIl]; have := Hl40.out; omega) l.length hLIl.symm
              · rcases hLmem x hxm with h | h
                · exact hel W hW x h
                · rw [h]
                  exact ⟨(hel W hW _ (List.getElem_mem hkl)).1, (OwnR.rows (C := 1) (cells := icell) (fun _ => rfl) (o6.below hW)).2⟩
              · rcases hLmem x hxm with h | h
                · exact hlen1 x h
                · rw [h]
                  exact ⟨(hlen1 _ (List.getElem_mem hkl)).1, hM6l⟩)
            have HT2 := Lib.hid (show ∀ W, Below vd.heap.size vd W → Calls Try.prog 16 #[.slice (some ⟨g, o, none⟩) kk cap] W fun r w' => (∃ v, r = .returned v ∧ ∃ O, XsAt w' 0 v O ∧ O.map vX = countsV ((l.take kk).map vX)) ∧ Below W.heap.size W w' from fun W hW =>
              refCounts_any (some ⟨g, o, none⟩) cap (l.take kk) W (rows_take (hrl W hW) kk) (fun x hx => hel W hW x (List.mem_of_mem_take hx)) (fun x hx => hlen1 x (List.mem_of_mem_take hx)) (by rw [List.length_take]; have := Hl40.out; omega) kk (by rw [List.length_take]; omega))
            have KD := Lib.hid (K4.out.below hbd K4.out.lt)
            have BD := Lib.hid hBd
            have HOi := Lib.hid (show ∀ O : List Lsa, O.map vX = countsV ((l.take kk).map vX) → O.length ≤ 40 from fun O h => by
              have h1 := congrArg List.length h
              have h2 := countsV_len ((l.take kk).map vX)
              rw [List.length_map] at h1
              rw [List.length_map, List.length_take] at h2
              have := Hl40.out
              omega)
            have HXr := Lib.hid (show ∀ W, Below vd.heap.size vd W → RowsAt 4 Lnk.cells W W.heap.size ka ls ∧ RowsAt 1 icell W W.heap.size (some ⟨gm, om, none⟩) ms from fun W hW => ⟨(Hok.out.links.below (hin W hW)).more (hin W hW).size, (Hok.out.members.below (hin W hW)).more (hin W hW).size⟩)
            have hkc : kk ≤ cap := by have := Hcap.out; omega
            have HE0 := Lib.hid (HT0.out vd (Below.refl _ _))
            clear hx xs8 jf hO hg5 hbd o6 hvd hLI hwords hLIl hsplit hBd hLmem hM6l hil hlost hlaw hlaw2 hE0 hE1 hlen1 hin hel hrl hF o13 hM6 hkl
            go_wp2_with (first
              | (go_at_call 15; (with_reducible refine Calls.mono HE0.out ?_); rintro r wa ⟨⟨va0, rfl, hxa⟩, hba⟩; obtain ⟨Aa, ca, hva⟩ := hxa.shape; subst hva; have HXa := Lib.hid hxa; have HBa := Lib.hid hba; have HE1 := Lib.hid (HT1.out wa hba); clear hxa hba)
              | (go_at_call 15; (with_reducible refine Calls.mono HE1.out ?_); rintro r wb ⟨⟨vb0, rfl, hxb⟩, hbb⟩; obtain ⟨Ab, cb, hvb⟩ := hxb.shape; subst hvb; have HXb := Lib.hid hxb; have HXab := Lib.hid (HXa.out.below hbb); have HBb := Lib.hid (below_trans HBa.out HBa.out.size hbb); have HC2 := Lib.hid (HT2.out wb HBb.out); clear hxb hbb)
              | (go_at_call 16; (with_reducible refine Calls.mono HC2.out ?_); rintro r wc ⟨⟨vc0, rfl, O, hxo, ho⟩, hbc⟩; obtain ⟨Ao, co, hvo⟩ := hxo.own.shape; subst hvo; have HXo := Lib.hid hxo; have HO := Lib.hid ho; have HBc := Lib.hid (below_trans HBb.out HBb.out.size hbc); have HXac := Lib.hid (HXab.out.below hbc); have HXbc := Lib.hid (HXb.out.below hbc); have hOl := HOi.out O ho; clear hxo ho hbc))
            have hOi : (O.length : Int) ≤ 40 := by omega
            obtain ⟨C, hC⟩ : ∃ C, O.map vX = C := ⟨_, rfl⟩
            have hCl : C.length = O.length := by rw [← hC, List.length_map]
            have HCO := Lib.hid hC
            have HLaw2 := HLaw.out
            rw [← HO.out, hC] at HLaw2
            have HLw := Lib.hid HLaw2
            have KC := Lib.hid (KD.out.below HBc.out KD.out.lt)
            clear HLaw2 hC
            go_loopw [93] (fun i wr => ∃ q : Nat, i = .int .i64 q ∧ q ≤ O.length ∧ hasV (C.take q) (⟨2, y3, y4⟩ : K3) = false ∧ Below wc.heap.size wc wr) (fun i _ => O.length - (intOf i).toNat)
            case atStart => exact ⟨0, rfl, Nat.zero_le _, rfl, Below.refl _ _⟩
            case round =>
              obtain ⟨q, rfl, hq, hno, hb⟩ := hrel
              have Hno := Lib.hid hno
              have Hbq := Lib.hid hb
              by_cases hql : q < O.length
              · have hqk : (q : Int) < (O.length : Int) := by omega
                obtain ⟨g', o', hA', -, x0, x1, x2, x3, x4, x5, x6, x7, x8⟩ := row_lsa9b (OwnR.rows (C := 9) (cells := Lsa.cells) (fun _ => rfl) (HXo.out.own.below hb)).2 q hql
                have hmr := hasV_more (C := C) (i := q) (by omega) (⟨2, y3, y4⟩ : K3)
                have hCq : keyV (C[q]'(by omega)) = keyX O[q] := by
                  have h1 : ∀ (D : List VX) (h : O.map vX = D) (hq : q < D.length), keyV (D[q]'hq) = keyX O[q] := fun D h hq => by subst h; rw [List.getElem_map]; rfl
                  exact h1 C HCO.out _
                rw [hCq] at hmr
                rw [hA']
                have Hql := Lib.hid hql
                generalize O[q]'hql = y at *
                obtain ⟨⟨f1, f2, f3, f4, f5, f6, f7⟩, ke, kf, lu, me, mf, mu⟩ := y
                simp only at x0 x1 x2 x3 x4 x5 x6 x7 x8
                obtain ⟨nl3, hnl3⟩ : ∃ nl3, lu.length = nl3 := ⟨_, rfl⟩
                obtain ⟨nm3, hnm3⟩ : ∃ nm3, mu.length = nm3 := ⟨_, rfl⟩
                rw [hnl3] at x7
                rw [hnm3] at x8
                obtain ⟨E, hE⟩ : ∃ E, decide ((⟨f2, f3, f4⟩ : K3) = ⟨2, y3, y4⟩) = E := ⟨_, rfl⟩
                have hmr2 : hasV (C.take (q + 1)) (⟨2, y3, y4⟩ : K3) = E := by
                  rw [hmr, hno, ← hE]
                  rfl
                have Hmr := Lib.hid hmr2
                have he := eqKey20 f2 f3 f4 2 y3 y4
                rw [hE] at he
                obtain ⟨w9, hw9⟩ : ∃ w9, wr.alloc (.cells #[.int .i64 f1, .int .i64 f2, .int .i64 f3, .int .i64 f4, .int .i64 f5, .int .i64 f6, .int .i64 f7, .slice ke nl3 kf, .slice me nm3 mf] 30) = w9 := ⟨_, rfl⟩
                obtain ⟨g9, hg9⟩ : ∃ g9, wr.heap.size = g9 := ⟨_, rfl⟩
                have hk9 := Blk.new wr 30 #[.int .i64 f1, .int .i64 f2, .int .i64 f3, .int .i64 f4, .int .i64 f5, .int .i64 f6, .int .i64 f7, .slice ke nl3 kf, .slice me nm3 mf]
                have hb9 := below_new wr (.cells #[.int .i64 f1, .int .i64 f2, .int .i64 f3, .int .i64 f4, .int .i64 f5, .int .i64 f6, .int .i64 f7, .slice ke nl3 kf, .slice me nm3 mf] 30)
                rw [hw9, hg9] at hk9
                rw [hw9] at hb9
                have hk8 := (KC.out.below hb KC.out.lt)
                have hk89 := hk8.below hb9 hk8.lt
                have B9 := Lib.hid (below_trans hb hb.size hb9)
                have CK := Lib.hid (fun a b c d e f g dd os => Calls.regrown_of (w := w9) (d := dd) (os := os) (key_any a b c d e f g _))
                obtain ⟨z0, z1, z2, z3, z4, z5, z6, z7, z8, zf⟩ := blk9 hk89
                obtain ⟨v0, v1, v2, v3, v4, v5, v6, v7, v8, vf⟩ := blk9 hk9
                have z0 := cell_regrown z0
                have z1 := cell_regrown z1
                have z2 := cell_regrown z2
                have z3 := cell_regrown z3
                have z4 := cell_regrown z4
                have z5 := cell_regrown z5
                have z6 := cell_regrown z6
                have v0 := cell_regrown v0
                have v1 := cell_regrown v1
                have v2 := cell_regrown v2
                have v3 := cell_regrown v3
                have v4 := cell_regrown v4
                have v5 := cell_regrown v5
                have v6 := cell_regrown v6
                clear hA' hno hb hnl3 hnm3 hE hk9 hb9 hk8 hk89 hql hq z7 z8 zf v7 v8 vf hmr hmr2 hCq
                go_wp2_with fail
                refine wp_region_quiet_below (by kernel_rfl) (by kernel_rfl) ?_
                repeat (go_big_quiet_step (exact CK.out _ _ _ _ _ _ _ _ _))
                refine wpQuiet_nil ?_
                rintro w15 ⟨⟨dq, osq⟩, hw15⟩
                have B15 := Lib.hid (show Below wc.heap.size wc w15 by rw [hw15]; exact below_trans B9.out B9.out.size (below_regrown w9 dq osq))
                clear hw15
                clear z0 z1 z2 z3 z4 z5 z6 v0 v1 v2 v3 v4 v5 v6 x0 x1 x2 x3 x4 x5 x6 x7 x8 CK
                cases E with
                | true =>
                  have hall : hasV C (⟨2, y3, y4⟩ : K3) = true := by
                    obtain ⟨y, hy, hk⟩ := hasV_iff.1 Hmr.out
                    exact hasV_iff.2 ⟨y, List.mem_of_mem_take hy, hk⟩
                  have hE1 := HLw.out.1 (.inr hall)
                  have HS := Lib.hid (Same20s Aa Ab ca cb E0 w15 _ _ (OwnR.rows (C := 5) (cells := Ed.cells) (fun _ => rfl) (HXac.out.below B15.out)).2 (by have h := (OwnR.rows (C := 5) (cells := Ed.cells) (fun _ => rfl) (HXbc.out.below B15.out)).2; rw [hE1] at h; exact h) (Nat.le_refl _) (Nat.le_refl _) (by have := HE0l.out; omega) E0.length E1.length rfl (by rw [hE1]))
                  clear hall hE1
                  go_wp2_with (go_at_call 18; (with_reducible refine Calls.mono HS.out ?_); rintro r wg ⟨rfl, hbg⟩; have HBg := Lib.hid (below_trans BD.out BD.out.size (below_trans HBc.out HBc.out.size (below_trans B15.out B15.out.size hbg))); clear hbg)
                  go_ret
                  exact ⟨rfl, HBg.out⟩
                | false =>
                  go_wp2
                  go_roundw
                  case measure => have := Hql.out; simp [intOf]; omega
                  case rel => exact ⟨q + 1, by go_num, Hql.out, Hmr.out, B15.out⟩
              · have hqe : q = O.length := by omega
                subst hqe
                have hqk : ¬ (O.length : Int) < (O.length : Int) := by omega
                have hno2 : hasV C (⟨2, y3, y4⟩ : K3) = false := by
                  rw [← hCl, List.take_length] at hno
                  exact hno
                have HNo := Lib.hid hno2
                have hk8 := KC.out.below hb KC.out.lt
                obtain ⟨z0, z1, z2, z3, z4, z5, z6, z7, z8, zf⟩ := blk9 hk8
                have HBn := Lib.hid (below_new wr (.cells #[.int .i64 y1, .int .i64 2, .int .i64 y3, .int .i64 y4, .int .i64 y5, .int .i64 y6, .int .i64 y7, .slice ka nl kc, .slice (some ⟨gm, om, none⟩) nm mc] 30))
                have HLit : Hid (OwnR 30 9 Lsa.cells (wr.alloc (.cells #[.int .i64 y1, .int .i64 2, .int .i64 y3, .int .i64 y4, .int .i64 y5, .int .i64 y6, .int .i64 y7, .slice ka nl kc, .slice (some ⟨gm, om, none⟩) nm mc] 30)) wr.heap.size (.slice (some ⟨wr.heap.size, 0, none⟩) 1 1) [⟨⟨y1, 2, y3, y4, y5, y6, y7⟩, ka, kc, ls, some ⟨gm, om, none⟩, mc, ms⟩]) := Lib.hid (by
                  have h := own_lit (e := 30) (C := 9) (cells := Lsa.cells) (fun _ => rfl) wr ⟨⟨y1, 2, y3, y4, y5, y6, y7⟩, ka, kc, ls, some ⟨gm, om, none⟩, mc, ms⟩
                  unfold Lsa.cells at h
                  simp only [Hnl.out, Hnm.out] at h
                  exact h)
                have Bq := Lib.hid (below_trans HBc.out HBc.out.size (below_trans hb hb.size HBn.out))
                have hn20 : ls.length ≤ 1000 ∧ ms.length ≤ 1000 := by have := Hxl.out; omega
                have HC1 := Lib.hid (refCounts_any (some ⟨wr.heap.size, 0, none⟩) 1 [⟨⟨y1, 2, y3, y4, y5, y6, y7⟩, ka, kc, ls, some ⟨gm, om, none⟩, mc, ms⟩] _ (OwnR.rows (C := 9) (cells := Lsa.cells) (fun _ => rfl) HLit.out).2 (fun x hx => by rw [List.mem_singleton] at hx; subst hx; exact HXr.out _ Bq.out) (fun x hx => by rw [List.mem_singleton] at hx; subst hx; exact hn20) (by simp) 1 rfl)
                clear hno hno2 hb hq hn20 hql hk8
                go_wp2_with fail
                with_reducible refine Calls.mono HC1.out ?_
                rintro r we ⟨⟨ve0, rfl, O2, hx2, ho2⟩, hbe⟩
                obtain ⟨A2, c2, hv2⟩ := hx2.own.shape
                subst hv2
                have hl2 := congrArg List.length ho2
                obtain ⟨n2, hn2⟩ : ∃ n, O2.length = n := ⟨_, rfl⟩
                rw [List.length_map, hn2] at hl2
                rw [hn2]
                have hone := counts_one (vX (⟨⟨y1, 2, y3, y4, y5, y6, y7⟩, ka, kc, ls, some ⟨gm, om, none⟩, mc, ms⟩ : Lsa))
                have hl3 : (countsV (List.map vX [(⟨⟨y1, 2, y3, y4, y5, y6, y7⟩, ka, kc, ls, some ⟨gm, om, none⟩, mc, ms⟩ : Lsa)])).length = n2 := hl2.symm
                rw [show List.map vX [(⟨⟨y1, 2, y3, y4, y5, y6, y7⟩, ka, kc, ls, some ⟨gm, om, none⟩, mc, ms⟩ : Lsa)] = [vX (⟨⟨y1, 2, y3, y4, y5, y6, y7⟩, ka, kc, ls, some ⟨gm, om, none⟩, mc, ms⟩ : Lsa)] from rfl] at hl3
                rw [hl3] at hone
                have HOne := Lib.hid hone
                have HBe := Lib.hid (below_trans HBc.out HBc.out.size (below_trans Hbq.out Hbq.out.size (below_trans HBn.out HBn.out.size hbe)))
                have HBce := Lib.hid (below_trans Hbq.out Hbq.out.size (below_trans HBn.out HBn.out.size hbe))
                clear hx2 ho2 hbe hl2 hn2 hone hl3 z0 z1 z2 z3 z4 z5 z6 z7 z8 zf
                by_cases h0 : (n2 : Int) = 0
                · have hE1 := HLw.out.1 (.inl (HOne.out.1 (by omega)))
                  have HS := Lib.hid (Same20s Aa Ab ca cb E0 we _ _ (OwnR.rows (C := 5) (cells := Ed.cells) (fun _ => rfl) (HXac.out.below HBce.out)).2 (by have h := (OwnR.rows (C := 5) (cells := Ed.cells) (fun _ => rfl) (HXbc.out.below HBce.out)).2; rw [hE1] at h; exact h) (Nat.le_refl _) (Nat.le_refl _) (by have := HE0l.out; omega) E0.length E1.length rfl (by rw [hE1]))
                  clear hE1
                  go_wp2_with (go_at_call 18; (with_reducible refine Calls.mono HS.out ?_); rintro r wg ⟨rfl, hbg⟩; have HBg := Lib.hid (below_trans BD.out BD.out.size (below_trans HBe.out HBe.out.size hbg)); clear hbg)
                  go_ret
                  exact ⟨rfl, HBg.out⟩
                · have hcx : cntV (vX (⟨⟨y1, 2, y3, y4, y5, y6, y7⟩, ka, kc, ls, some ⟨gm, om, none⟩, mc, ms⟩ : Lsa)) = true := by
                    rw [← Bool.not_eq_false]
                    exact fun h => h0 (by have := HOne.out.2 h; omega)
                  have HE1 := Lib.hid (HLw.out.2 ⟨hcx, HNo.out⟩)
                  have hE0i : (E0.length : Int) ≤ 2000 := by have := HE0l.out; omega
                  have KE := Lib.hid (KC.out.below HBce.out KC.out.lt)
                  have HXae := Lib.hid (OwnR.rows (C := 5) (cells := Ed.cells) (fun _ => rfl) (HXac.out.below HBce.out)).2
                  have HXbe := Lib.hid (HXbc.out.below HBce.out)
                  have hb0 : ((n2 : Int) == 0) = false := by simpa using h0
                  clear hcx h0
                  go_wp2
                  go_loopw [16, 118] (fun v i wr => ∃ k : Nat, i = .int .i64 k ∧ k ≤ E0.length ∧ OwnR 42 5 Ed.cells wr we.heap.size v ((E0.take k).filter (offE lost y3)) ∧ Below we.heap.size we wr) (fun _ i _ => E0.length - (intOf i).toNat)
                  case atStart => exact ⟨0, rfl, Nat.zero_le _, OwnR.nil _ _, Below.refl _ _⟩
                  case round =>
                    obtain ⟨k, rfl, hk, hown, hb⟩ := hrel
                    obtain ⟨A7, c7, hv7⟩ := hown.shape
                    subst hv7
                    obtain ⟨Q, hQ⟩ : ∃ Q, (E0.take k).filter (offE lost y3) = Q := ⟨_, rfl⟩
                    rw [hQ] at hown ⊢
                    have hQl : Q.length ≤ 2000 := by
                      rw [← hQ]
                      have h1 := List.length_filter_le (offE lost y3) (E0.take k)
                      rw [List.length_take] at h1
                      have := HE0l.out
                      omega
                    have HQl := Lib.hid hQl
                    by_cases hlt : k < E0.length
                    · obtain ⟨g', o', hA', -, x0, x1, x2, x3, x4⟩ := row_ed (HXae.out.below hb) k hlt
                      have hkl : (k : Int) < (E0.length : Int) := by omega
                      have hsn := off_snoc lost y3 hlt
                      rw [hQ] at hsn
                      rw [hA']
                      have Hlt := Lib.hid hlt
                      generalize E0[k]'hlt = x at *
                      obtain ⟨e1, e2, e3, e4, e5⟩ := x
                      simp only at x0 x1 x2 x3 x4
                      have Hsn := Lib.hid hsn
                      obtain ⟨w6, hw6⟩ : ∃ w6, wr.alloc (.cells #[.int .i64 e1, .int .i64 e2, .int .i64 e3, .int .i64 e4, .int .i64 e5] 42) = w6 := ⟨_, rfl⟩
                      obtain ⟨g6, hg6⟩ : ∃ g6, wr.heap.size = g6 := ⟨_, rfl⟩
                      have hk6 := Blk.new wr 42 #[.int .i64 e1, .int .i64 e2, .int .i64 e3, .int .i64 e4, .int .i64 e5]
                      have hb6 := below_new wr (.cells #[.int .i64 e1, .int .i64 e2, .int .i64 e3, .int .i64 e4, .int .i64 e5] 42)
                      rw [hw6, hg6] at hk6
                      rw [hw6] at hb6
                      have K6 := Lib.hid hk6
                      have O6 := Lib.hid (hown.below hb6)
                      have B6 := Lib.hid (below_trans hb hb.size hb6)
                      have KE6 := Lib.hid ((KE.out.below hb KE.out.lt).below hb6 (Nat.lt_of_lt_of_le KE.out.lt hb.size))
                      clear hA' hlt hk6 hb6 hown hb hsn hQ hk hQl
                      go_wp2_with fail
                      clear x0 x1 x2 x3 x4
                      refine wp_region_F (F := fun W => Below w6.heap.size w6 W) (n := 8) (m := 8) (s := #[false, false, false, false, false, false, false, false]) (by kernel_rfl) (by kernel_rfl) (by kernel_rfl) ?_
                      intro wd hwd
                      have hF : Below w6.heap.size w6 wd := by rw [hwd.out]; exact (Below.refl _ _).drew
                      clear hwd
                      refine G_take (i := 0) (d := some 122) (by decide) (s' := #[true, false, false, false, false, false, false, false]) (by kernel_rfl) rfl rfl (by kernel_rfl) (by kernel_rfl) (by kernel_rfl) (fun _ _ _ h => h) (Or.inl ⟨by kernel_rfl, fun W hW => by obtain ⟨a0, a1, a2, a3, a4, af⟩ := (K6.out.below hW K6.out.lt).cells5; go_simp; try with_reducible rfl⟩) hF ?_
                      go_frame
                      refine G_take (i := 1) (d := some 123) (by decide) (s' := #[true, true, false, false, false, false, false, false]) (by kernel_rfl) rfl rfl (by kernel_rfl) (by kernel_rfl) (by kernel_rfl) (fun _ _ _ h => h) (Or.inl ⟨by kernel_rfl, fun W hW => by obtain ⟨a0, a1, a2, a3, a4, af⟩ := (K6.out.below hW K6.out.lt).cells5; go_simp; try with_reducible rfl⟩) hF ?_
                      go_frame
                      refine G_take (i := 2) (d := some 124) (by decide) (s' := #[true, true, true, false, false, false, false, false]) (by kernel_rfl) rfl rfl (by kernel_rfl) (by kernel_rfl) (by kernel_rfl) (fun _ _ _ h => h) (Or.inl ⟨by kernel_rfl, fun W hW => by obtain ⟨a0, a1, a2, a3, a4, af⟩ := (K6.out.below hW K6.out.lt).cells5; go_simp; try with_reducible rfl⟩) hF ?_
                      go_frame
                      refine G_take (i := 3) (d := some 125) (by decide) (s' := #[true, true, true, true, false, false, false, false]) (by kernel_rfl) rfl rfl (by kernel_rfl) (by kernel_rfl) (by kernel_rfl) (fun _ _ _ h => h) (Or.inl ⟨by kernel_rfl, fun W hW => by obtain ⟨a0, a1, a2, a3, a4, af⟩ := (K6.out.below hW K6.out.lt).cells5; go_simp; try with_reducible rfl⟩) hF ?_
                      go_frame
                      refine F_two (i := 4) (si := #[true, true, true, true, true, false, false, false]) (j := 5) (sj := #[true, true, true, true, false, true, false, false]) (by kernel_rfl) (by kernel_rfl) (by kernel_rfl) ?_ ?_
                      · skip
                        obtain ⟨we1, hV⟩ : ∃ v, wd.alloc (.cells #[.int .i64 0, .int .i64 0] 40) = v := ⟨_, rfl⟩
                        have hb := below_new wd (.cells #[.int .i64 0, .int .i64 0] 40)
                        have kr := Blk.new wd 40 #[.int .i64 0, .int .i64 0]
                        obtain ⟨pr, hp⟩ : ∃ p, wd.heap.size = p := ⟨_, rfl⟩
                        rw [hV] at hb kr
                        rw [hp] at kr
                        have hBpr : w6.heap.size ≤ pr := by have := hF.size; omega
                        have hF := below_trans hF hF.size hb
                        refine wpOp_valueL (i := 4) (d := some 19) (w' := we1) (v := .pointer (some ⟨pr, 0, none⟩)) rfl rfl (by kernel_rfl) (by go_simp) ⟨fun _ => hF, ?_⟩
                        go_frame
                        clear hb hV hp
                        refine F_one (i := 5) (s' := #[true, true, true, true, true, true, false, false]) (by kernel_rfl) (by kernel_rfl) ?_
                        obtain ⟨we2, hV⟩ : ∃ v, we1.alloc (.cells #[.int .i64 0, .int .i64 0] 40) = v := ⟨_, rfl⟩
                        have hb := below_new we1 (.cells #[.int .i64 0, .int .i64 0] 40)
                        have kn := Blk.new we1 40 #[.int .i64 0, .int .i64 0]
                        obtain ⟨pn, hp⟩ : ∃ p, we1.heap.size = p := ⟨_, rfl⟩
                        rw [hV] at hb kn
                        rw [hp] at kn
                        have hnepn : pn ≠ pr := by have := kr.lt; omega
                        have hnepr : pr ≠ pn := by omega
                        have kr := kr.below hb kr.lt
                        have hBpn : w6.heap.size ≤ pn := by have := hF.size; omega
                        have hF := below_trans hF hF.size hb
                        refine wpOp_valueL (i := 5) (d := some 20) (w' := we2) (v := .pointer (some ⟨pn, 0, none⟩)) rfl rfl (by kernel_rfl) (by go_simp) ⟨fun _ => hF, ?_⟩
                        go_frame
                        clear hb hV hp
                        refine F_one (i := 6) (s' := #[true, true, true, true, true, true, true, false]) (by kernel_rfl) (by kernel_rfl) ?_
                        obtain ⟨we3, hV⟩ : ∃ v, (we2.setCell ⟨pr, 0, none⟩ (.int .i64 e1)).setCell ⟨pr, 1, none⟩ (.int .i64 e2) = v := ⟨_, rfl⟩
                        obtain ⟨s0, s1, sf0, sf1⟩ := kr.cells2
                        have kr := kr.set2 (.int .i64 e1) (.int .i64 e2)
                        rw [hV] at kr
                        have kn := kn.far2 hnepn (.int .i64 e1) (.int .i64 e2)
                        rw [hV] at kn
                        have hF := below_set2 hF hBpr (.int .i64 e1) (.int .i64 e2)
                        rw [hV] at hF
                        refine wpOp_skipL (i := 6) (w' := we3) rfl rfl (by kernel_rfl) (by go_simp) ⟨fun _ => hF, ?_⟩
                        go_frame
                        clear hV s0 s1 sf0 sf1
                        refine F_one (i := 7) (s' := #[true, true, true, true, true, true, true, true]) (by kernel_rfl) (by kernel_rfl) ?_
                        obtain ⟨wz, hV⟩ : ∃ v, (we3.setCell ⟨pn, 0, none⟩ (.int .i64 e3)).setCell ⟨pn, 1, none⟩ (.int .i64 e4) = v := ⟨_, rfl⟩
                        obtain ⟨s0, s1, sf0, sf1⟩ := kn.cells2
                        have kn := kn.set2 (.int .i64 e3) (.int .i64 e4)
                        rw [hV] at kn
                        have kr := kr.far2 hnepr (.int .i64 e3) (.int .i64 e4)
                        rw [hV] at kr
                        have hF := below_set2 hF hBpn (.int .i64 e3) (.int .i64 e4)
                        rw [hV] at hF
                        refine wpOp_skipL (i := 7) (w' := wz) rfl rfl (by kernel_rfl) (by go_simp) ⟨fun _ => hF, ?_⟩
                        go_frame
                        clear hV s0 s1 sf0 sf1
                        refine F_done (by kernel_rfl) ?_ _
                        have BZ := Lib.hid hF
                        have Kr := Lib.hid kr
                        have Kn := Lib.hid kn
                        have KZ := Lib.hid (KE6.out.below hF KE6.out.lt)
                        have K6Z := Lib.hid (K6.out.below hF K6.out.lt)
                        clear hF kr kn
                        by_cases he : e1 = 2
                        · have b0 : (e1 == 2) = true := by simp [he]
                          have he1 := Lib.hid he
                          clear he
                          obtain ⟨wy, hwy⟩ : ∃ v, (((wz.setCell ⟨pr, 0, none⟩ (.int .i64 e3)).setCell ⟨pr, 1, none⟩ (.int .i64 e4)).setCell ⟨pn, 0, none⟩ (.int .i64 e1)).setCell ⟨pn, 1, none⟩ (.int .i64 e2) = v := ⟨_, rfl⟩
                          have kr2 := (Kr.out.set2 (.int .i64 e3) (.int .i64 e4)).far2 hnepr (.int .i64 e1) (.int .i64 e2)
                          have kn2 := (Kn.out.far2 hnepn (.int .i64 e3) (.int .i64 e4)).set2 (.int .i64 e1) (.int .i64 e2)
                          have hg6r : g6 ≠ pr := by have := K6.out.lt; omega
                          have hg6n : g6 ≠ pn := by have := K6.out.lt; omega
                          have hg3r : g3 ≠ pr := by have := KE6.out.lt; omega
                          have hg3n : g3 ≠ pn := by have := KE6.out.lt; omega
                          have k62 := (K6Z.out.far2 hg6r (.int .i64 e3) (.int .i64 e4)).far2 hg6n (.int .i64 e1) (.int .i64 e2)
                          have k32 := (KZ.out.far2 hg3r (.int .i64 e3) (.int .i64 e4)).far2 hg3n (.int .i64 e1) (.int .i64 e2)
                          have hy := below_set2 (below_set2 BZ.out hBpr (.int .i64 e3) (.int .i64 e4)) hBpn (.int .i64 e1) (.int .i64 e2)
                          rw [hwy] at kr2 kn2 k62 k32 hy
                          have BY := Lib.hid hy
                          obtain ⟨p0, p1, pf0, pf1⟩ := Kr.out.cells2
                          obtain ⟨q0, q1, qf0, qf1⟩ := Kn.out.cells2
                          obtain ⟨p2, p3, -, -⟩ := kr2.cells2
                          obtain ⟨q2, q3, -, -⟩ := kn2.cells2
                          obtain ⟨a0, a1, a2, a3, a4, -⟩ := k62.cells5
                          obtain ⟨d0, d1, d2, d3, d4, d5, d6, d7, d8, -⟩ := blk9 k32
                          clear kr2 kn2 hg6r hg6n hg3r hg3n k62 k32 hy d0 d1 d3 d4 d5 d6 d7 d8
                          have OW := Lib.hid (O6.out.below BY.out)
                          have BW := Lib.hid (below_trans B6.out B6.out.size BY.out)
                          by_cases h1 : e4 = lost
                          · have b1 : (e4 != lost) = false := by simp [h1]
                            by_cases h2 : e2 = y3
                            · have b2 : (e2 != y3) = false := by simp [h2]
                              have hD : offE lost y3 ⟨e1, e2, e3, e4, e5⟩ = false := by unfold offE; simp [he1.out, h1, h2]
                              have HD := Lib.hid hD
                              clear hD h1 h2
                              go_wp2
                              go_roundw
                              case measure => have := Hlt.out; simp [intOf]; omega
                              case rel => exact ⟨k + 1, by go_num, Hlt.out, by rw [Hsn.out, HD.out]; exact OW.out, BW.out⟩
                            · have b2 : (e2 != y3) = true := by simp [h2]
                              have hD : offE lost y3 ⟨e1, e2, e3, e4, e5⟩ = true := by unfold offE; simp [he1.out, h1, h2]
                              have HD := Lib.hid hD
                              clear hD h1 h2
                              go_wp2_with (at_builtin; (refine app_row (e := 42) Ed.cells (fun _ => rfl) (by decide) (bytes := 40) (by decide) infoE rfl Try.underlying32 onesE (by rfl) _ _ (by rfl) we.heap.size _ Q (by rfl) (OW.out.alloc _) wy.heap.size ⟨e1, e2, e3, e4, e5⟩ (by rfl) (Blk.new _ _ _) (by have := HQl.out; omega) (by have := BW.out.size; simp; omega) ?_); intro v9 w9 hown9 hg9 hor9; have HO9 := Lib.hid hown9; have HB9 := Lib.hid (show Below we.heap.size we w9 from (BW.out.alloc BW.out.size _).grown hg9 (by have := BW.out.size; simp; omega) (fun m e => (OW.out.block m e).1)); clear hown9 hg9 hor9)
                              go_roundw
                              case measure => have := Hlt.out; simp [intOf]; omega
                              case rel => exact ⟨k + 1, by go_num, Hlt.out, by rw [Hsn.out, HD.out]; exact HO9.out, HB9.out⟩
                          · have b1 : (e4 != lost) = true := by simp [h1]
                            have hD : offE lost y3 ⟨e1, e2, e3, e4, e5⟩ = true := by unfold offE; simp [he1.out, h1]
                            have HD := Lib.hid hD
                            clear hD h1
                            go_wp2_with (at_builtin; (refine app_row (e := 42) Ed.cells (fun _ => rfl) (by decide) (bytes := 40) (by decide) infoE rfl Try.underlying32 onesE (by rfl) _ _ (by rfl) we.heap.size _ Q (by rfl) (OW.out.alloc _) wy.heap.size ⟨e1, e2, e3, e4, e5⟩ (by rfl) (Blk.new _ _ _) (by have := HQl.out; omega) (by have := BW.out.size; simp; omega) ?_); intro v9 w9 hown9 hg9 hor9; have HO9 := Lib.hid hown9; have HB9 := Lib.hid (show Below we.heap.size we w9 from (BW.out.alloc BW.out.size _).grown hg9 (by have := BW.out.size; simp; omega) (fun m e => (OW.out.block m e).1)); clear hown9 hg9 hor9)
                            go_roundw
                            case measure => have := Hlt.out; simp [intOf]; omega
                            case rel => exact ⟨k + 1, by go_num, Hlt.out, by rw [Hsn.out, HD.out]; exact HO9.out, HB9.out⟩
                        · have b0 : (e1 == 2) = false := by simp [he]
                          have he1 := Lib.hid he
                          clear he
                          have BY := Lib.hid BZ.out
                          obtain ⟨p0, p1, pf0, pf1⟩ := Kr.out.cells2
                          obtain ⟨q0, q1, qf0, qf1⟩ := Kn.out.cells2
                          obtain ⟨a0, a1, a2, a3, a4, -⟩ := K6Z.out.cells5
                          obtain ⟨d0, d1, d2, d3, d4, d5, d6, d7, d8, -⟩ := blk9 KZ.out
                          clear d0 d1 d3 d4 d5 d6 d7 d8
                          have OW := Lib.hid (O6.out.below BY.out)
                          have BW := Lib.hid (below_trans B6.out B6.out.size BY.out)
                          by_cases h1 : e2 = lost
                          · have b1 : (e2 != lost) = false := by simp [h1]
                            by_cases h2 : e4 = y3
                            · have b2 : (e4 != y3) = false := by simp [h2]
                              have hD : offE lost y3 ⟨e1, e2, e3, e4, e5⟩ = false := by unfold offE; simp [he1.out, h1, h2]
                              have HD := Lib.hid hD
                              clear hD h1 h2
                              go_wp2
                              go_roundw
                              case measure => have := Hlt.out; simp [intOf]; omega
                              case rel => exact ⟨k + 1, by go_num, Hlt.out, by rw [Hsn.out, HD.out]; exact OW.out, BW.out⟩
                            · have b2 : (e4 != y3) = true := by simp [h2]
                              have hD : offE lost y3 ⟨e1, e2, e3, e4, e5⟩ = true := by unfold offE; simp [he1.out, h1, h2]
                              have HD := Lib.hid hD
                              clear hD h1 h2
                              go_wp2_with (at_builtin; (refine app_row (e := 42) Ed.cells (fun _ => rfl) (by decide) (bytes := 40) (by decide) infoE rfl Try.underlying32 onesE (by rfl) _ _ (by rfl) we.heap.size _ Q (by rfl) (OW.out.alloc _) wz.heap.size ⟨e1, e2, e3, e4, e5⟩ (by rfl) (Blk.new _ _ _) (by have := HQl.out; omega) (by have := BW.out.size; simp; omega) ?_); intro v9 w9 hown9 hg9 hor9; have HO9 := Lib.hid hown9; have HB9 := Lib.hid (show Below we.heap.size we w9 from (BW.out.alloc BW.out.size _).grown hg9 (by have := BW.out.size; simp; omega) (fun m e => (OW.out.block m e).1)); clear hown9 hg9 hor9)
                              go_roundw
                              case measure => have := Hlt.out; simp [intOf]; omega
                              case rel => exact ⟨k + 1, by go_num, Hlt.out, by rw [Hsn.out, HD.out]; exact HO9.out, HB9.out⟩
                          · have b1 : (e2 != lost) = true := by simp [h1]
                            have hD : offE lost y3 ⟨e1, e2, e3, e4, e5⟩ = true := by unfold offE; simp [he1.out, h1]
                            have HD := Lib.hid hD
                            clear hD h1
                            go_wp2_with (at_builtin; (refine app_row (e := 42) Ed.cells (fun _ => rfl) (by decide) (bytes := 40) (by decide) infoE rfl Try.underlying32 onesE (by rfl) _ _ (by rfl) we.heap.size _ Q (by rfl) (OW.out.alloc _) wz.heap.size ⟨e1, e2, e3, e4, e5⟩ (by rfl) (Blk.new _ _ _) (by have := HQl.out; omega) (by have := BW.out.size; simp; omega) ?_); intro v9 w9 hown9 hg9 hor9; have HO9 := Lib.hid hown9; have HB9 := Lib.hid (show Below we.heap.size we w9 from (BW.out.alloc BW.out.size _).grown hg9 (by have := BW.out.size; simp; omega) (fun m e => (OW.out.block m e).1)); clear hown9 hg9 hor9)
                            go_roundw
                            case measure => have := Hlt.out; simp [intOf]; omega
                            case rel => exact ⟨k + 1, by go_num, Hlt.out, by rw [Hsn.out, HD.out]; exact HO9.out, HB9.out⟩
                      · skip
                        obtain ⟨we1, hV⟩ : ∃ v, wd.alloc (.cells #[.int .i64 0, .int .i64 0] 40) = v := ⟨_, rfl⟩
                        have hb := below_new wd (.cells #[.int .i64 0, .int .i64 0] 40)
                        have kn := Blk.new wd 40 #[.int .i64 0, .int .i64 0]
                        obtain ⟨pn, hp⟩ : ∃ p, wd.heap.size = p := ⟨_, rfl⟩
                        rw [hV] at hb kn
                        rw [hp] at kn
                        have hBpn : w6.heap.size ≤ pn := by have := hF.size; omega
                        have hF := below_trans hF hF.size hb
                        refine wpOp_valueL (i := 5) (d := some 20) (w' := we1) (v := .pointer (some ⟨pn, 0, none⟩)) rfl rfl (by kernel_rfl) (by go_simp) ⟨fun _ => hF, ?_⟩
                        go_frame
                        clear hb hV hp
                        refine F_one (i := 4) (s' := #[true, true, true, true, true, true, false, false]) (by kernel_rfl) (by kernel_rfl) ?_
                        obtain ⟨we2, hV⟩ : ∃ v, we1.alloc (.cells #[.int .i64 0, .int .i64 0] 40) = v := ⟨_, rfl⟩
                        have hb := below_new we1 (.cells #[.int .i64 0, .int .i64 0] 40)
                        have kr := Blk.new we1 40 #[.int .i64 0, .int .i64 0]
                        obtain ⟨pr, hp⟩ : ∃ p, we1.heap.size = p := ⟨_, rfl⟩
                        rw [hV] at hb kr
                        rw [hp] at kr
                        have hnepr : pr ≠ pn := by have := kn.lt; omega
                        have hnepn : pn ≠ pr := by omega
                        have kn := kn.below hb kn.lt
                        have hBpr : w6.heap.size ≤ pr := by have := hF.size; omega
                        have hF := below_trans hF hF.size hb
                        refine wpOp_valueL (i := 4) (d := some 19) (w' := we2) (v := .pointer (some ⟨pr, 0, none⟩)) rfl rfl (by kernel_rfl) (by go_simp) ⟨fun _ => hF, ?_⟩
                        go_frame
                        clear hb hV hp
                        refine F_one (i := 6) (s' := #[true, true, true, true, true, true, true, false]) (by kernel_rfl) (by kernel_rfl) ?_
                        obtain ⟨we3, hV⟩ : ∃ v, (we2.setCell ⟨pr, 0, none⟩ (.int .i64 e1)).setCell ⟨pr, 1, none⟩ (.int .i64 e2) = v := ⟨_, rfl⟩
                        obtain ⟨s0, s1, sf0, sf1⟩ := kr.cells2
                        have kr := kr.set2 (.int .i64 e1) (.int .i64 e2)
                        rw [hV] at kr
                        have kn := kn.far2 hnepn (.int .i64 e1) (.int .i64 e2)
                        rw [hV] at kn
                        have hF := below_set2 hF hBpr (.int .i64 e1) (.int .i64 e2)
                        rw [hV] at hF
                        refine wpOp_skipL (i := 6) (w' := we3) rfl rfl (by kernel_rfl) (by go_simp) ⟨fun _ => hF, ?_⟩
                        go_frame
                        clear hV s0 s1 sf0 sf1
                        refine F_one (i := 7) (s' := #[true, true, true, true, true, true, true, true]) (by kernel_rfl) (by kernel_rfl) ?_
                        obtain ⟨wz, hV⟩ : ∃ v, (we3.setCell ⟨pn, 0, none⟩ (.int .i64 e3)).setCell ⟨pn, 1, none⟩ (.int .i64 e4) = v := ⟨_, rfl⟩
                        obtain ⟨s0, s1, sf0, sf1⟩ := kn.cells2
                        have kn := kn.set2 (.int .i64 e3) (.int .i64 e4)
                        rw [hV] at kn
                        have kr := kr.far2 hnepr (.int .i64 e3) (.int .i64 e4)
                        rw [hV] at kr
                        have hF := below_set2 hF hBpn (.int .i64 e3) (.int .i64 e4)
                        rw [hV] at hF
                        refine wpOp_skipL (i := 7) (w' := wz) rfl rfl (by kernel_rfl) (by go_simp) ⟨fun _ => hF, ?_⟩
                        go_frame
                        clear hV s0 s1 sf0 sf1
                        refine F_done (by kernel_rfl) ?_ _
                        have BZ := Lib.hid hF
                        have Kr := Lib.hid kr
                        have Kn := Lib.hid kn
                        have KZ := Lib.hid (KE6.out.below hF KE6.out.lt)
                        have K6Z := Lib.hid (K6.out.below hF K6.out.lt)
                        clear hF kr kn
                        by_cases he : e1 = 2
                        · have b0 : (e1 == 2) = true := by simp [he]
                          have he1 := Lib.hid he
                          clear he
                          obtain ⟨wy, hwy⟩ : ∃ v, (((wz.setCell ⟨pr, 0, none⟩ (.int .i64 e3)).setCell ⟨pr, 1, none⟩ (.int .i64 e4)).setCell ⟨pn, 0, none⟩ (.int .i64 e1)).setCell ⟨pn, 1, none⟩ (.int .i64 e2) = v := ⟨_, rfl⟩
                          have kr2 := (Kr.out.set2 (.int .i64 e3) (.int .i64 e4)).far2 hnepr (.int .i64 e1) (.int .i64 e2)
                          have kn2 := (Kn.out.far2 hnepn (.int .i64 e3) (.int .i64 e4)).set2 (.int .i64 e1) (.int .i64 e2)
                          have hg6r : g6 ≠ pr := by have := K6.out.lt; omega
                          have hg6n : g6 ≠ pn := by have := K6.out.lt; omega
                          have hg3r : g3 ≠ pr := by have := KE6.out.lt; omega
                          have hg3n : g3 ≠ pn := by have := KE6.out.lt; omega
                          have k62 := (K6Z.out.far2 hg6r (.int .i64 e3) (.int .i64 e4)).far2 hg6n (.int .i64 e1) (.int .i64 e2)
                          have k32 := (KZ.out.far2 hg3r (.int .i64 e3) (.int .i64 e4)).far2 hg3n (.int .i64 e1) (.int .i64 e2)
                          have hy := below_set2 (below_set2 BZ.out hBpr (.int .i64 e3) (.int .i64 e4)) hBpn (.int .i64 e1) (.int .i64 e2)
                          rw [hwy] at kr2 kn2 k62 k32 hy
                          have BY := Lib.hid hy
                          obtain ⟨p0, p1, pf0, pf1⟩ := Kr.out.cells2
                          obtain ⟨q0, q1, qf0, qf1⟩ := Kn.out.cells2
                          obtain ⟨p2, p3, -, -⟩ := kr2.cells2
                          obtain ⟨q2, q3, -, -⟩ := kn2.cells2
                          obtain ⟨a0, a1, a2, a3, a4, -⟩ := k62.cells5
                          obtain ⟨d0, d1, d2, d3, d4, d5, d6, d7, d8, -⟩ := blk9 k32
                          clear kr2 kn2 hg6r hg6n hg3r hg3n k62 k32 hy d0 d1 d3 d4 d5 d6 d7 d8
                          have OW := Lib.hid (O6.out.below BY.out)
                          have BW := Lib.hid (below_trans B6.out B6.out.size BY.out)
                          by_cases h1 : e4 = lost
                          · have b1 : (e4 != lost) = false := by simp [h1]
                            by_cases h2 : e2 = y3
                            · have b2 : (e2 != y3) = false := by simp [h2]
                              have hD : offE lost y3 ⟨e1, e2, e3, e4, e5⟩ = false := by unfold offE; simp [he1.out, h1, h2]
                              have HD := Lib.hid hD
                              clear hD h1 h2
                              go_wp2
                              go_roundw
                              case measure => have := Hlt.out; simp [intOf]; omega
                              case rel => exact ⟨k + 1, by go_num, Hlt.out, by rw [Hsn.out, HD.out]; exact OW.out, BW.out⟩
                            · have b2 : (e2 != y3) = true := by simp [h2]
                              have hD : offE lost y3 ⟨e1, e2, e3, e4, e5⟩ = true := by unfold offE; simp [he1.out, h1, h2]
                              have HD := Lib.hid hD
                              clear hD h1 h2
                              go_wp2_with (at_builtin; (refine app_row (e := 42) Ed.cells (fun _ => rfl) (by decide) (bytes := 40) (by decide) infoE rfl Try.underlying32 onesE (by rfl) _ _ (by rfl) we.heap.size _ Q (by rfl) (OW.out.alloc _) wy.heap.size ⟨e1, e2, e3, e4, e5⟩ (by rfl) (Blk.new _ _ _) (by have := HQl.out; omega) (by have := BW.out.size; simp; omega) ?_); intro v9 w9 hown9 hg9 hor9; have HO9 := Lib.hid hown9; have HB9 := Lib.hid (show Below we.heap.size we w9 from (BW.out.alloc BW.out.size _).grown hg9 (by have := BW.out.size; simp; omega) (fun m e => (OW.out.block m e).1)); clear hown9 hg9 hor9)
                              go_roundw
                              case measure => have := Hlt.out; simp [intOf]; omega
                              case rel => exact ⟨k + 1, by go_num, Hlt.out, by rw [Hsn.out, HD.out]; exact HO9.out, HB9.out⟩
                          · have b1 : (e4 != lost) = true := by simp [h1]
                            have hD : offE lost y3 ⟨e1, e2, e3, e4, e5⟩ = true := by unfold offE; simp [he1.out, h1]
                            have HD := Lib.hid hD
                            clear hD h1
                            go_wp2_with (at_builtin; (refine app_row (e := 42) Ed.cells (fun _ => rfl) (by decide) (bytes := 40) (by decide) infoE rfl Try.underlying32 onesE (by rfl) _ _ (by rfl) we.heap.size _ Q (by rfl) (OW.out.alloc _) wy.heap.size ⟨e1, e2, e3, e4, e5⟩ (by rfl) (Blk.new _ _ _) (by have := HQl.out; omega) (by have := BW.out.size; simp; omega) ?_); intro v9 w9 hown9 hg9 hor9; have HO9 := Lib.hid hown9; have HB9 := Lib.hid (show Below we.heap.size we w9 from (BW.out.alloc BW.out.size _).grown hg9 (by have := BW.out.size; simp; omega) (fun m e => (OW.out.block m e).1)); clear hown9 hg9 hor9)
                            go_roundw
                            case measure => have := Hlt.out; simp [intOf]; omega
                            case rel => exact ⟨k + 1, by go_num, Hlt.out, by rw [Hsn.out, HD.out]; exact HO9.out, HB9.out⟩
                        · have b0 : (e1 == 2) = false := by simp [he]
                          have he1 := Lib.hid he
                          clear he
                          have BY := Lib.hid BZ.out
                          obtain ⟨p0, p1, pf0, pf1⟩ := Kr.out.cells2
                          obtain ⟨q0, q1, qf0, qf1⟩ := Kn.out.cells2
                          obtain ⟨a0, a1, a2, a3, a4, -⟩ := K6Z.out.cells5
                          obtain ⟨d0, d1, d2, d3, d4, d5, d6, d7, d8, -⟩ := blk9 KZ.out
                          clear d0 d1 d3 d4 d5 d6 d7 d8
                          have OW := Lib.hid (O6.out.below BY.out)
                          have BW := Lib.hid (below_trans B6.out B6.out.size BY.out)
                          by_cases h1 : e2 = lost
                          · have b1 : (e2 != lost) = false := by simp [h1]
                            by_cases h2 : e4 = y3
                            · have b2 : (e4 != y3) = false := by simp [h2]
                              have hD : offE lost y3 ⟨e1, e2, e3, e4, e5⟩ = false := by unfold offE; simp [he1.out, h1, h2]
                              have HD := Lib.hid hD
                              clear hD h1 h2
                              go_wp2
                              go_roundw
                              case measure => have := Hlt.out; simp [intOf]; omega
                              case rel => exact ⟨k + 1, by go_num, Hlt.out, by rw [Hsn.out, HD.out]; exact OW.out, BW.out⟩
                            · have b2 : (e4 != y3) = true := by simp [h2]
                              have hD : offE lost y3 ⟨e1, e2, e3, e4, e5⟩ = true := by unfold offE; simp [he1.out, h1, h2]
                              have HD := Lib.hid hD
                              clear hD h1 h2
                              go_wp2_with (at_builtin; (refine app_row (e := 42) Ed.cells (fun _ => rfl) (by decide) (bytes := 40) (by decide) infoE rfl Try.underlying32 onesE (by rfl) _ _ (by rfl) we.heap.size _ Q (by rfl) (OW.out.alloc _) wz.heap.size ⟨e1, e2, e3, e4, e5⟩ (by rfl) (Blk.new _ _ _) (by have := HQl.out; omega) (by have := BW.out.size; simp; omega) ?_); intro v9 w9 hown9 hg9 hor9; have HO9 := Lib.hid hown9; have HB9 := Lib.hid (show Below we.heap.size we w9 from (BW.out.alloc BW.out.size _).grown hg9 (by have := BW.out.size; simp; omega) (fun m e => (OW.out.block m e).1)); clear hown9 hg9 hor9)
                              go_roundw
                              case measure => have := Hlt.out; simp [intOf]; omega
                              case rel => exact ⟨k + 1, by go_num, Hlt.out, by rw [Hsn.out, HD.out]; exact HO9.out, HB9.out⟩
                          · have b1 : (e2 != lost) = true := by simp [h1]
                            have hD : offE lost y3 ⟨e1, e2, e3, e4, e5⟩ = true := by unfold offE; simp [he1.out, h1]
                            have HD := Lib.hid hD
                            clear hD h1
                            go_wp2_with (at_builtin; (refine app_row (e := 42) Ed.cells (fun _ => rfl) (by decide) (bytes := 40) (by decide) infoE rfl Try.underlying32 onesE (by rfl) _ _ (by rfl) we.heap.size _ Q (by rfl) (OW.out.alloc _) wz.heap.size ⟨e1, e2, e3, e4, e5⟩ (by rfl) (Blk.new _ _ _) (by have := HQl.out; omega) (by have := BW.out.size; simp; omega) ?_); intro v9 w9 hown9 hg9 hor9; have HO9 := Lib.hid hown9; have HB9 := Lib.hid (show Below we.heap.size we w9 from (BW.out.alloc BW.out.size _).grown hg9 (by have := BW.out.size; simp; omega) (fun m e => (OW.out.block m e).1)); clear hown9 hg9 hor9)
                            go_roundw
                            case measure => have := Hlt.out; simp [intOf]; omega
                            case rel => exact ⟨k + 1, by go_num, Hlt.out, by rw [Hsn.out, HD.out]; exact HO9.out, HB9.out⟩
                    · have hke : k = E0.length := by omega
                      subst hke
                      have hkl : ¬ (E0.length : Int) < (E0.length : Int) := by omega
                      rw [List.take_length, ← HE1.out] at hQ
                      subst hQ
                      have HS := Lib.hid (Same20s Ab A7 cb c7 E1 wr _ _ (OwnR.rows (C := 5) (cells := Ed.cells) (fun _ => rfl) (HXbe.out.below hb)).2 (OwnR.rows (C := 5) (cells := Ed.cells) (fun _ => rfl) hown).2 (Nat.le_refl _) (Nat.le_refl _) (by have := HQl.out; omega) E1.length E1.length rfl rfl)
                      have Hb := Lib.hid hb
                      clear hown hb hk hlt hQl
                      go_wp2_with (go_at_call 18; (with_reducible refine Calls.mono HS.out ?_); rintro r wg ⟨rfl, hbg⟩; have HBg := Lib.hid (below_trans BD.out BD.out.size (below_trans HBe.out HBe.out.size (below_trans Hb.out Hb.out.size hbg))); clear hbg)
                      go_ret
                      exact ⟨rfl, HBg.out⟩
        · go_wp2
          go_ret
          exact ⟨rfl, B4.out⟩

end Go.Proofs.Ytpfjgecdlilkcaa
