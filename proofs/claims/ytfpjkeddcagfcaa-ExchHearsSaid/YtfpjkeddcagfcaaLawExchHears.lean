/-
  The law ExchHears: its walk.
-/
import Derived.Test.YtfpjkeddcagfcaaBab
import Derived.Test.YtfpjkeddcagfcaaBai
import Derived.Test.YtfpjkeddcagfcaaBaj
import Derived.Test.YtfpjkeddcagfcaaBal
namespace Go.Proofs.Ytfpjkeddcagfcaa
open Go.RowKit Go.Sort

theorem row_dd {w : World} {B : Nat} {A : Option Addr} {l : List DdC} (h : RowsAt 5 DdC.cells w B A l) (k : Nat) (hk : k < l.length) : ∃ b o, A = some ⟨b, o, none⟩ ∧ b < B ∧ w.cell? ⟨b, o + k * 5, none⟩ = some (.bool l[k].b1) ∧ w.cell? ⟨b, o + k * 5 + 1, none⟩ = some (.bool l[k].b2) ∧ w.cell? ⟨b, o + k * 5 + 2, none⟩ = some (.bool l[k].b3) ∧ w.cell? ⟨b, o + k * 5 + 3, none⟩ = some (.int .i64 l[k].z) ∧ w.cell? ⟨b, o + k * 5 + 4, none⟩ = some (.slice l[k].a l[k].m l[k].c) := by
  obtain ⟨b, o, e, hb, hc⟩ := h (by omega)
  exact ⟨b, o, e, hb, hc k hk 0 _ (by omega) rfl, hc k hk 1 _ (by omega) rfl, hc k hk 2 _ (by omega) rfl, hc k hk 3 _ (by omega) rfl, hc k hk 4 _ (by omega) rfl⟩
set_option maxHeartbeats 16000000 in
set_option maxRecDepth 100000 in
theorem exchHears_any (n0 n1 n2 : Int) (A : Option Addr) (cap : Nat) (l : List Lsa) (Ad : Option Addr) (cd : Nat) (ds : List DdC) (w : World) (hl : LsasAt w w.heap.size A l) (hm : l.length ≤ maxLen) (hd : RowsAt 5 DdC.cells w w.heap.size Ad ds) (hdm : ds.length ≤ maxLen) :
    Calls Try.prog 3 #[.agg #[.int .i64 n0, .int .i64 n1, .int .i64 n2], .slice A l.length cap, .slice Ad ds.length cd] w fun r w' => r = .returned (.bool true) ∧ Below w.heap.size w w' := by
  obtain ⟨w1, hw1⟩ : ∃ w1, w.alloc (.cells #[.int .i64 n0, .int .i64 n1, .int .i64 n2] 22) = w1 := ⟨_, rfl⟩
  obtain ⟨g1, hg1⟩ : ∃ g1, w.heap.size = g1 := ⟨_, rfl⟩
  have hk := Blk.new w 22 #[.int .i64 n0, .int .i64 n1, .int .i64 n2]
  have hb1 := below_new w (.cells #[.int .i64 n0, .int .i64 n1, .int .i64 n2] 22)
  rw [hw1, hg1] at hk
  rw [hw1] at hb1
  have HK1 := Lib.hid hk
  have Hb1 := Lib.hid hb1
  have HDs := Lib.hid hd
  obtain ⟨t, htt⟩ : ∃ t, manyB 60 l = t := ⟨_, rfl⟩
  have HMany := Lib.hid (fun W (hW : Below w.heap.size w W) => many14 A cap l W w.heap.size (hl.rows.below hW) hW.size hm l.length rfl htt)
  have HRows := Lib.hid hl.rows
  have Ht := Lib.hid htt
  obtain ⟨nl, hnl⟩ : ∃ nl, l.length = nl := ⟨_, rfl⟩
  have Hnl := Lib.hid hnl
  rw [hnl] at HMany ⊢
  obtain ⟨nd, hnd⟩ : ∃ nd, ds.length = nd := ⟨_, rfl⟩
  have Hnd := Lib.hid hnd
  unfold maxLen at hdm
  rw [hnd] at hdm ⊢
  have hndm : (nd : Int) ≤ 9223372036854775807 := by omega
  clear hk hb1 hl hm hd htt hnl hnd hdm
  go_enter Try.func3, Try.ntmps3
  go_wp2_with fail
  with_reducible refine Calls.mono (wakes14 _) ?_
  rintro r w2 ⟨rfl, hb2⟩
  have HK2 := Lib.hid (HK1.out.below hb2 HK1.out.lt)
  have Hb2 := Lib.hid (below_trans Hb1.out Hb1.out.size hb2)
  clear hb2
  go_wp2_with fail
  with_reducible refine Calls.mono (HMany.out _ Hb2.out) ?_
  rintro r w3 ⟨rfl, hb3⟩
  have HK3 := Lib.hid (HK2.out.below hb3 HK2.out.lt)
  have Hb3 := Lib.hid (below_trans Hb2.out Hb2.out.size hb3)
  clear hb3
  cases t with
  | true =>
    go_wp2
    go_ret
    exact ⟨rfl, Hb3.out⟩
  | false =>
    obtain ⟨hl60, -⟩ := manyB_lens Ht.out
    have HNw := Lib.hid (suNew_stays A cap l w HRows.out hl60)
    have HRh := Lib.hid (rHeads_stays A cap l w HRows.out hl60)
    have HS60 := Lib.hid (heads60 hl60)
    rw [Hnl.out] at HNw HRh
    obtain ⟨S, hS⟩ : ∃ S, stbS (headsOf l) = S := ⟨_, rfl⟩
    rw [hS] at HNw HRh HS60
    clear hl60 hS
    by_cases h60 : (60 : Int) < (nd : Int)
    · go_wp2
      go_ret
      exact ⟨rfl, Hb3.out⟩
    · have hnd60 : (nd : Int) ≤ 60 := by omega
      have HC := Lib.hid (fun W (hW : Below w3.heap.size w3 W) => (show W.cell? ⟨g1, 0, none⟩ = some (.int .i64 n0) ∧ W.cell? ⟨g1, 1, none⟩ = some (.int .i64 n1) ∧ W.cell? ⟨g1, 2, none⟩ = some (.int .i64 n2) from ⟨(HK3.out.below hW HK3.out.lt).cell 0, (HK3.out.below hW HK3.out.lt).cell 1, (HK3.out.below hW HK3.out.lt).cell 2⟩))
      go_wp2_with fail
      refine wp_region_F (F := fun W => Below w3.heap.size w3 W) (n := 16) (m := 16) (s := #[false, false, false, false, false, false, false, false, false, false, false, false, false, false, false, false]) (by kernel_rfl) (by kernel_rfl) (by kernel_rfl) ?_
      intro wd hwd
      have hF : Below w3.heap.size w3 wd := by rw [hwd.out]; exact (Below.refl _ _).drew
      clear hwd
      refine G_take (i := 0) (d := some 20) (by decide) (s' := #[true, false, false, false, false, false, false, false, false, false, false, false, false, false, false, false]) (by kernel_rfl) rfl rfl (by kernel_rfl) (by kernel_rfl) (by kernel_rfl) (fun _ _ _ h => h) (Or.inl ⟨by kernel_rfl, fun W hW => by obtain ⟨a0, a1, a2⟩ := HC.out W hW; go_simp; try with_reducible rfl⟩) hF ?_
      go_frame
      refine G_take (i := 2) (d := some 22) (by decide) (s' := #[true, false, true, false, false, false, false, false, false, false, false, false, false, false, false, false]) (by kernel_rfl) rfl rfl (by kernel_rfl) (by kernel_rfl) (by kernel_rfl) (fun _ _ _ h => h) (Or.inl ⟨by kernel_rfl, fun W hW => by obtain ⟨a0, a1, a2⟩ := HC.out W hW; go_simp; try with_reducible rfl⟩) hF ?_
      go_frame
      refine G_take (i := 4) (d := some 24) (by decide) (s' := #[true, false, true, false, true, false, false, false, false, false, false, false, false, false, false, false]) (by kernel_rfl) rfl rfl (by kernel_rfl) (by kernel_rfl) (by kernel_rfl) (fun _ _ _ h => h) (Or.inl ⟨by kernel_rfl, fun W hW => by obtain ⟨a0, a1, a2⟩ := HC.out W hW; go_simp; try with_reducible rfl⟩) hF ?_
      go_frame
      refine G_take (i := 1) (d := some 21) (by decide) (s' := #[true, true, true, false, true, false, false, false, false, false, false, false, false, false, false, false]) (by kernel_rfl) rfl rfl (by kernel_rfl) (by kernel_rfl) (by kernel_rfl) (fun _ _ _ h => h) (Or.inl ⟨by kernel_rfl, fun W hW => by obtain ⟨a0, a1, a2⟩ := HC.out W hW; go_simp; try with_reducible rfl⟩) hF ?_
      go_frame
      refine G_take (i := 3) (d := some 23) (by decide) (s' := #[true, true, true, true, true, false, false, false, false, false, false, false, false, false, false, false]) (by kernel_rfl) rfl rfl (by kernel_rfl) (by kernel_rfl) (by kernel_rfl) (fun _ _ _ h => h) (Or.inl ⟨by kernel_rfl, fun W hW => by obtain ⟨a0, a1, a2⟩ := HC.out W hW; go_simp; try with_reducible rfl⟩) hF ?_
      go_frame
      refine G_take (i := 5) (d := some 25) (by decide) (s' := #[true, true, true, true, true, true, false, false, false, false, false, false, false, false, false, false]) (by kernel_rfl) rfl rfl (by kernel_rfl) (by kernel_rfl) (by kernel_rfl) (fun _ _ _ h => h) (Or.inl ⟨by kernel_rfl, fun W hW => by obtain ⟨a0, a1, a2⟩ := HC.out W hW; go_simp; try with_reducible rfl⟩) hF ?_
      go_frame
      refine G_take (i := 7) (d := some 27) (by decide) (s' := #[true, true, true, true, true, true, false, true, false, false, false, false, false, false, false, false]) (by kernel_rfl) rfl rfl (by kernel_rfl) (by kernel_rfl) (by kernel_rfl) (fun _ _ _ h => h) (Or.inl ⟨by kernel_rfl, fun W hW => by obtain ⟨a0, a1, a2⟩ := HC.out W hW; go_simp; try with_reducible rfl⟩) hF ?_
      go_frame
      refine G_take (i := 9) (d := some 29) (by decide) (s' := #[true, true, true, true, true, true, false, true, false, true, false, false, false, false, false, false]) (by kernel_rfl) rfl rfl (by kernel_rfl) (by kernel_rfl) (by kernel_rfl) (fun _ _ _ h => h) (Or.inl ⟨by kernel_rfl, fun W hW => by obtain ⟨a0, a1, a2⟩ := HC.out W hW; go_simp; try with_reducible rfl⟩) hF ?_
      go_frame
      refine G_take (i := 11) (d := some 31) (by decide) (s' := #[true, true, true, true, true, true, false, true, false, true, false, true, false, false, false, false]) (by kernel_rfl) rfl rfl (by kernel_rfl) (by kernel_rfl) (by kernel_rfl) (fun _ _ _ h => h) (Or.inl ⟨by kernel_rfl, fun W hW => by obtain ⟨a0, a1, a2⟩ := HC.out W hW; go_simp; try with_reducible rfl⟩) hF ?_
      go_frame
      refine G_take (i := 8) (d := some 28) (by decide) (s' := #[true, true, true, true, true, true, false, true, true, true, false, true, false, false, false, false]) (by kernel_rfl) rfl rfl (by kernel_rfl) (by kernel_rfl) (by kernel_rfl) (fun _ _ _ h => h) (Or.inl ⟨by kernel_rfl, fun W hW => by obtain ⟨a0, a1, a2⟩ := HC.out W hW; go_simp; try with_reducible rfl⟩) hF ?_
      go_frame
      refine G_take (i := 10) (d := some 30) (by decide) (s' := #[true, true, true, true, true, true, false, true, true, true, true, true, false, false, false, false]) (by kernel_rfl) rfl rfl (by kernel_rfl) (by kernel_rfl) (by kernel_rfl) (fun _ _ _ h => h) (Or.inl ⟨by kernel_rfl, fun W hW => by obtain ⟨a0, a1, a2⟩ := HC.out W hW; go_simp; try with_reducible rfl⟩) hF ?_
      go_frame
      refine G_take (i := 12) (d := some 32) (by decide) (s' := #[true, true, true, true, true, true, false, true, true, true, true, true, true, false, false, false]) (by kernel_rfl) rfl rfl (by kernel_rfl) (by kernel_rfl) (by kernel_rfl) (fun _ _ _ h => h) (Or.inl ⟨by kernel_rfl, fun W hW => by obtain ⟨a0, a1, a2⟩ := HC.out W hW; go_simp; try with_reducible rfl⟩) hF ?_
      go_frame
      refine F_one (i := 6) (s' := #[true, true, true, true, true, true, true, true, true, true, true, true, true, false, false, false]) (by kernel_rfl) (by kernel_rfl) ?_
      refine (wpOp_enterL (i := 6) (d := some 26) (f := 8) (args := #[.int .i64 n0, .int .i64 n1, .int .i64 n2]) rfl rfl (by kernel_rfl) (by go_simp) ((exNew n0 n1 n2 wd).mono ?_))
      rintro r v1 ⟨rfl, hv1⟩
      have hb : Below wd.heap.size wd v1 := by rw [hv1]; exact below_new _ _
      have kp : Blk v1 wd.heap.size 65 (exA n0 n1 (n2 % 4294967296) false false false false false false 0 true true true (n2 % 4294967296) (.slice none 0 0) (.pointer none)) := by rw [hv1]; exact Blk.new _ _ _
      clear hv1
      obtain ⟨px, hpx⟩ : ∃ px, wd.heap.size = px := ⟨_, rfl⟩
      have Hpx := Lib.hid (show w.heap.size ≤ px by rw [← hpx]; exact Nat.le_trans Hb3.out.size hF.size)
      rw [hpx] at kp ⊢
      have hF := below_trans hF hF.size hb
      clear hb hpx
      refine ⟨_, rfl, fun _ => hF, ?_⟩
      go_frame
      refine F_one (i := 13) (s' := #[true, true, true, true, true, true, true, true, true, true, true, true, true, true, false, false]) (by kernel_rfl) (by kernel_rfl) ?_
      refine (wpOp_enterL (i := 13) (d := some 33) (f := 9) (args := #[.int .i64 n0, .int .i64 n1, .int .i64 n2]) rfl rfl (by kernel_rfl) (by go_simp) ((rxNew n0 n1 n2 v1).mono ?_))
      rintro r v2 ⟨rfl, kq, hb⟩
      obtain ⟨py, hpy⟩ : ∃ py, v1.heap.size = py := ⟨_, rfl⟩
      have Hpy := Lib.hid (show w.heap.size ≤ py by rw [← hpy]; exact Nat.le_trans Hb3.out.size hF.size)
      rw [hpy] at kq ⊢
      have kp := kp.below hb kp.lt
      have hF := below_trans hF hF.size hb
      clear hb hpy
      refine ⟨_, rfl, fun _ => hF, ?_⟩
      go_frame
      refine G_take (i := 14) (d := some 7) (by decide) (s' := #[true, true, true, true, true, true, true, true, true, true, true, true, true, true, true, false]) (by kernel_rfl) rfl rfl (by kernel_rfl) (by kernel_rfl) (by kernel_rfl) (fun _ _ _ h => h) (Or.inl ⟨by kernel_rfl, fun W hW => by go_simp; try with_reducible rfl⟩) hF ?_
      go_frame
      refine G_take (i := 15) (d := some 8) (by decide) (s' := #[true, true, true, true, true, true, true, true, true, true, true, true, true, true, true, true]) (by kernel_rfl) rfl rfl (by kernel_rfl) (by kernel_rfl) (by kernel_rfl) (fun _ _ _ h => h) (Or.inl ⟨by kernel_rfl, fun W hW => by go_simp; try with_reducible rfl⟩) hF ?_
      go_frame
      refine F_done (by kernel_rfl) ?_ _
      have hn2 : 0 ≤ n2 % 4294967296 ∧ n2 % 4294967296 ≤ 4294967295 := by omega
      have HM := Lib.hid (show PairM w v2 px px py 0 (freshX n0 n1 (n2 % 4294967296)) from ⟨.fresh kp hn2, .fresh kq hn2, ⟨Hpx.out, Hpx.out, Hpy.out⟩, Nat.zero_le _, below_trans Hb3.out Hb3.out.size hF⟩)
      clear kp kq hF hn2
      go_wp2
      go_loopw [36] (fun i wr => ∃ (k s0 : Nat) (x : ExM), i = .int .i64 k ∧ k ≤ nd ∧ Hid (PairM w wr px s0 py k x)) (fun i _ => nd - (intOf i).toNat)
      case atStart => exact ⟨0, px, _, rfl, Nat.zero_le _, HM⟩
      case round =>
        obtain ⟨k, s0, x, rfl, hk, HP⟩ := hrel
        obtain ⟨wo, hwo⟩ : ∃ wo, wo = wr := ⟨_, rfl⟩
        subst hwo
        by_cases hlt : k < nd
        · have hkl : (k : Int) < (nd : Int) := by omega
          obtain ⟨gd, od, hA, hgd, z0, z1, z2, z3, z4⟩ := row_dd (HDs.out.below HP.out.below) k (by rw [Hnd.out]; exact hlt)
          obtain ⟨d, hd⟩ : ∃ d, ds[k]'(by rw [Hnd.out]; exact hlt) = d := ⟨_, rfl⟩
          rw [hd] at z0 z1 z2 z3 z4
          obtain ⟨b1, b2, b3, z, da, dm, dc⟩ := d
          simp only at z0 z1 z2 z3 z4
          have Hlt := Lib.hid hlt
          subst hA
          clear hd hgd hlt hk
          by_cases hm60 : (60 : Int) < (dm : Int)
          · go_wp2
            go_ret
            exact ⟨rfl, HP.out.below.alloc HP.out.below.size _⟩
          obtain ⟨hs, hhs⟩ : ∃ hs : List Hd, hs.length = dm := ⟨List.replicate dm ⟨0, 0, 0, 0, 0, 0, 0⟩, List.length_replicate⟩
          obtain ⟨w5, hw5⟩ : ∃ w5, wo.alloc (.cells #[.bool b1, .bool b2, .bool b3, .int .i64 z, .slice da dm dc] 33) = w5 := ⟨_, rfl⟩
          obtain ⟨g5, hg5⟩ : ∃ g5, wo.heap.size = g5 := ⟨_, rfl⟩
          have hk5 := Blk.new wo 33 #[.bool b1, .bool b2, .bool b3, .int .i64 z, .slice da dm dc]
          have hb5 := below_new wo (.cells #[.bool b1, .bool b2, .bool b3, .int .i64 z, .slice da dm dc] 33)
          rw [hw5, hg5] at hk5
          rw [hw5] at hb5
          have HP5 := Lib.hid (HP.out.keep hb5)
          have HK5 := Lib.hid hk5
          have Hhs := Lib.hid hhs
          have Hm := Lib.hid (show dm ≤ 60 by omega)
          obtain ⟨d0, d1, d2, d3, d4⟩ := blk5 hk5
          obtain ⟨q, hq⟩ : ∃ q, (hearM x ⟨b1, b2, b3, z, hs⟩ S).2 = q := ⟨_, rfl⟩
          have Hq := Lib.hid hq
          clear hb5 hk5 hhs hq HK1 HK2
          go_wp2_with fail
          refine wp_region_F (F := fun W => Blk W g5 33 #[.bool b1, .bool b2, .bool b3, .int .i64 z, .slice da dm dc]) (n := 15) (m := 15) (s := #[false, false, false, false, false, false, false, false, false, false, false, false, false, false, false]) (by kernel_rfl) (by kernel_rfl) (by kernel_rfl) ?_
          intro wd hwd
          have hbd : Below w5.heap.size w5 wd := by rw [hwd.out]; exact (Below.refl _ _).drew
          have hF := HK5.out.below hbd HK5.out.lt
          have HP6 := Lib.hid (HP5.out.keep hbd)
          clear hwd hbd
          refine G_take (i := 0) (d := some 44) (by decide) (s' := #[true, false, false, false, false, false, false, false, false, false, false, false, false, false, false]) (by kernel_rfl) rfl rfl (by kernel_rfl) (by kernel_rfl) (by kernel_rfl) (fun _ _ _ h => h) (Or.inl ⟨by kernel_rfl, fun W hW => by obtain ⟨a0, a1, a2, a3, a4⟩ := blk5 hW; go_simp; try with_reducible rfl⟩) hF ?_
          go_frame
          refine G_take (i := 1) (d := some 45) (by decide) (s' := #[true, true, false, false, false, false, false, false, false, false, false, false, false, false, false]) (by kernel_rfl) rfl rfl (by kernel_rfl) (by kernel_rfl) (by kernel_rfl) (fun _ _ _ h => h) (Or.inl ⟨by kernel_rfl, fun W hW => by obtain ⟨a0, a1, a2, a3, a4⟩ := blk5 hW; go_simp; try with_reducible rfl⟩) hF ?_
          go_frame
          refine F_one (i := 2) (s' := #[true, true, true, false, false, false, false, false, false, false, false, false, false, false, false]) (by kernel_rfl) (by kernel_rfl) ?_
          refine (wpOp_enterL (i := 2) (d := some 46) (f := 10) (args := #[.pointer (some ⟨px, 0, none⟩), .pointer (some ⟨py, 0, none⟩)]) rfl rfl (by kernel_rfl) (by go_simp) ((lawSame14 px s0 py k x wd HP6.out.ex HP6.out.rx (by have := HP6.out.said; omega)).mono ?_))
          rintro r v1 ⟨rfl, hb⟩
          have hF := hF.below hb hF.lt
          have HP7 := Lib.hid (HP6.out.keep hb)
          clear hb
          refine ⟨_, rfl, fun _ => hF, ?_⟩
          go_frame
          refine G_take (i := 3) (d := some 47) (by decide) (s' := #[true, true, true, true, false, false, false, false, false, false, false, false, false, false, false]) (by kernel_rfl) rfl rfl (by kernel_rfl) (by kernel_rfl) (by kernel_rfl) (fun _ _ _ h => h) (Or.inl ⟨by kernel_rfl, fun W hW => by obtain ⟨a0, a1, a2, a3, a4⟩ := blk5 hW; go_simp; try with_reducible rfl⟩) hF ?_
          go_frame
          refine G_take (i := 4) (d := some 48) (by decide) (s' := #[true, true, true, true, true, false, false, false, false, false, false, false, false, false, false]) (by kernel_rfl) rfl rfl (by kernel_rfl) (by kernel_rfl) (by kernel_rfl) (fun _ _ _ h => h) (Or.inl ⟨by kernel_rfl, fun W hW => by obtain ⟨a0, a1, a2, a3, a4⟩ := blk5 hW; go_simp; try with_reducible rfl⟩) hF ?_
          go_frame
          refine G_take (i := 5) (d := some 49) (by decide) (s' := #[true, true, true, true, true, true, false, false, false, false, false, false, false, false, false]) (by kernel_rfl) rfl rfl (by kernel_rfl) (by kernel_rfl) (by kernel_rfl) (fun _ _ _ h => h) (Or.inl ⟨by kernel_rfl, fun W hW => by obtain ⟨a0, a1, a2, a3, a4⟩ := blk5 hW; go_simp; try with_reducible rfl⟩) hF ?_
          go_frame
          refine G_take (i := 6) (d := some 50) (by decide) (s' := #[true, true, true, true, true, true, true, false, false, false, false, false, false, false, false]) (by kernel_rfl) rfl rfl (by kernel_rfl) (by kernel_rfl) (by kernel_rfl) (fun _ _ _ h => h) (Or.inl ⟨by kernel_rfl, fun W hW => by obtain ⟨a0, a1, a2, a3, a4⟩ := blk5 hW; go_simp; try with_reducible rfl⟩) hF ?_
          go_frame
          refine G_take (i := 7) (d := some 51) (by decide) (s' := #[true, true, true, true, true, true, true, true, false, false, false, false, false, false, false]) (by kernel_rfl) rfl rfl (by kernel_rfl) (by kernel_rfl) (by kernel_rfl) (fun _ _ _ h => h) (Or.inl ⟨by kernel_rfl, fun W hW => by obtain ⟨a0, a1, a2, a3, a4⟩ := blk5 hW; go_simp; try with_reducible rfl⟩) hF ?_
          go_frame
          refine G_take (i := 9) (d := some 53) (by decide) (s' := #[true, true, true, true, true, true, true, true, false, true, false, false, false, false, false]) (by kernel_rfl) rfl rfl (by kernel_rfl) (by kernel_rfl) (by kernel_rfl) (fun _ _ _ h => h) (Or.inl ⟨by kernel_rfl, fun W hW => by obtain ⟨a0, a1, a2, a3, a4⟩ := blk5 hW; go_simp; try with_reducible rfl⟩) hF ?_
          go_frame
          refine G_take (i := 10) (d := some 54) (by decide) (s' := #[true, true, true, true, true, true, true, true, false, true, true, false, false, false, false]) (by kernel_rfl) rfl rfl (by kernel_rfl) (by kernel_rfl) (by kernel_rfl) (fun _ _ _ h => h) (Or.inl ⟨by kernel_rfl, fun W hW => by obtain ⟨a0, a1, a2, a3, a4⟩ := blk5 hW; go_simp; try with_reducible rfl⟩) hF ?_
          go_frame
          refine G_take (i := 11) (d := some 55) (by decide) (s' := #[true, true, true, true, true, true, true, true, false, true, true, true, false, false, false]) (by kernel_rfl) rfl rfl (by kernel_rfl) (by kernel_rfl) (by kernel_rfl) (fun _ _ _ h => h) (Or.inl ⟨by kernel_rfl, fun W hW => by obtain ⟨a0, a1, a2, a3, a4⟩ := blk5 hW; go_simp; try with_reducible rfl⟩) hF ?_
          go_frame
          refine F_one (i := 8) (s' := #[true, true, true, true, true, true, true, true, true, true, true, true, false, false, false]) (by kernel_rfl) (by kernel_rfl) ?_
          have hH := hear_any px s0 x ⟨b1, b2, b3, z, hs⟩ da dc A nl cap S v1 HP7.out.ex HS60.out (by have := Hhs.out; have := Hm.out; simp only; omega) (fun W hW => HNw.out W (HP7.out.below.grown hW HP7.out.below.size (fun g e => by injection e with e; rw [← e]; exact HP7.out.pb.1)))
          simp only [DdV.val, Hhs.out] at hH
          refine (wpOp_enterL (i := 8) (d := some 52) (f := 11) (args := #[.pointer (some ⟨px, 0, none⟩), .agg #[.bool b1, .bool b2, .bool b3, .int .i64 z, .slice da dm dc], .slice A nl cap]) rfl rfl (by kernel_rfl) (by go_simp) (hH.mono ?_))
          rintro r v2 hh
          have hF0 := hF
          have hF : Blk v2 g5 33 #[.bool b1, .bool b2, .bool b3, .int .i64 z, .slice da dm dc] := by
            obtain ⟨s, hr, he, h1, h2, hmv⟩ := hh
            exact hmv.blk hF0 (fun e => by
              rcases e with e | ⟨e1, e⟩
              · obtain ⟨hv, hp, -⟩ := HP7.out.ex.ptr
                have := blk_type (e ▸ hp) hF0
                revert this; decide
              · obtain ⟨v, hsm⟩ := HP7.out.ex.sum e1
                have := blk_type (e ▸ hsm.ptr) hF0
                revert this; decide)
          obtain ⟨rfl, s, he, hs9, hrx, hb9⟩ := HP7.out.heard hh
          rw [Hq.out]
          have HE9 := Lib.hid he
          have HR9 := Lib.hid hrx
          have Hs9 := Lib.hid hs9
          have Hb9 := Lib.hid hb9
          clear hh hH he hrx hs9 hb9 hF0
          refine ⟨_, rfl, fun _ => hF, ?_⟩
          go_frame
          refine F_one (i := 12) (s' := #[true, true, true, true, true, true, true, true, true, true, true, true, true, false, false]) (by kernel_rfl) (by kernel_rfl) ?_
          have hH := rxHear_any py k x ⟨b1, b2, b3, z, hs⟩ da dc A nl cap S v2 HR9.out (by have := Hlt.out; omega) HS60.out (by have := Hhs.out; have := Hm.out; simp only; omega) (fun W hW => HRh.out W (Hb9.out.grown hW Hb9.out.size (fun g e => by injection e with e; rw [← e]; exact HP7.out.pb.2.2)))
          simp only [DdV.val, Hhs.out] at hH
          refine (wpOp_enterL (i := 12) (d := some 56) (f := 12) (args := #[.pointer (some ⟨py, 0, none⟩), .agg #[.bool b1, .bool b2, .bool b3, .int .i64 z, .slice da dm dc], .slice A nl cap]) rfl rfl (by kernel_rfl) (by go_simp) (hH.mono ?_))
          rintro r v3 hh
          have hF0 := hF
          have hF : Blk v3 g5 33 #[.bool b1, .bool b2, .bool b3, .int .i64 z, .slice da dm dc] := by
            obtain ⟨t9, cs9, hb9, e9⟩ := HR9.out.blk
            refine hF0.grown hh.2.2 (fun e => ?_)
            injection e with e
            have := blk_type (e ▸ hb9) hF0
            rw [e9] at this
            revert this; decide
          obtain ⟨rfl, hp9⟩ := HP7.out.both HE9.out Hs9.out Hb9.out hh HR9.out.blk
          rw [Hq.out]
          have HP9 := Lib.hid hp9
          clear hh hH hp9 hF0
          refine ⟨_, rfl, fun _ => hF, ?_⟩
          go_frame
          refine G_take (i := 13) (d := some 57) (by decide) (s' := #[true, true, true, true, true, true, true, true, true, true, true, true, true, true, false]) (by kernel_rfl) rfl rfl (by kernel_rfl) (by kernel_rfl) (by kernel_rfl) (fun _ _ _ h => h) (Or.inl ⟨by kernel_rfl, fun W hW => by obtain ⟨a0, a1, a2, a3, a4⟩ := blk5 hW; go_simp; try with_reducible rfl⟩) hF ?_
          go_frame
          refine G_take (i := 14) (d := some 58) (by decide) (s' := #[true, true, true, true, true, true, true, true, true, true, true, true, true, true, true]) (by kernel_rfl) rfl rfl (by kernel_rfl) (by kernel_rfl) (by kernel_rfl) (fun _ _ _ h => h) (Or.inl ⟨by kernel_rfl, fun W hW => by obtain ⟨a0, a1, a2, a3, a4⟩ := blk5 hW; go_simp; try with_reducible rfl⟩) hF ?_
          go_frame
          refine F_done (by kernel_rfl) ?_ _
          clear hF d0 d1 d2 d3 d4 z0 z1 z2 z3 z4
          go_wp2
          go_roundw
          case measure => have := Hlt.out; simp [intOf]; omega
          case rel => exact ⟨k + 1, s, _, by go_num, Hlt.out, HP9⟩
        · have hkl : ¬ (k : Int) < (nd : Int) := by omega
          have HL := Lib.hid (lawSame14 px s0 py k x wo HP.out.ex HP.out.rx (by have := HP.out.said; omega))
          clear hlt hk
          go_wp2_with fail
          with_reducible refine Calls.mono HL.out ?_
          rintro r w9 ⟨rfl, hb9⟩
          have Hb9 := Lib.hid (below_trans HP.out.below HP.out.below.size hb9)
          clear hb9
          go_wp2
          go_ret
          exact ⟨rfl, Hb9.out⟩

end Go.Proofs.Ytfpjkeddcagfcaa
