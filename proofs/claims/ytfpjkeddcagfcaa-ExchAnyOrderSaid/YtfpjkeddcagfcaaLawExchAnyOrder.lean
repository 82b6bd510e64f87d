/-
  The law ExchAnyOrder: its walk.
-/
import Derived.Test.YtfpjkeddcagfcaaBag
import Derived.Test.YtfpjkeddcagfcaaBal
import Derived.Test.YtfpjkeddcagfcaaBan
namespace Go.Proofs.Ytfpjkeddcagfcaa
open Go.RowKit Go.Sort

theorem row_tc14 {w : World} {B : Nat} {A : Option Addr} {l : List Bool} (h : RowsAt 1 tcell w B A l) (k : Nat) (hk : k < l.length) : ∃ b o, A = some ⟨b, o, none⟩ ∧ w.cell? ⟨b, o + k, none⟩ = some (.bool l[k]) := by
  obtain ⟨b, o, e, hb, hc⟩ := h (by omega)
  exact ⟨b, o, e, by simpa using hc k hk 0 _ (by omega) rfl⟩
set_option maxHeartbeats 16000000 in
set_option maxRecDepth 100000 in
theorem exchAnyOrder_any (n0 n1 n2 n3 : Int) (A : Option Addr) (cap : Nat) (l : List Lsa) (A' : Option Addr) (cap' : Nat) (l' : List Lsa) (At : Option Addr) (ct : Nat) (ts : List Bool) (w : World) (hl : LsasAt w w.heap.size A l) (hm : l.length ≤ maxLen) (hl' : LsasAt w w.heap.size A' l') (hm' : l'.length ≤ maxLen) (ht : RowsAt 1 tcell w w.heap.size At ts) (htm : ts.length ≤ maxLen) :
    Calls Try.prog 4 #[.agg #[.int .i64 n0, .int .i64 n1, .int .i64 n2, .int .i64 n3], .agg #[.slice A l.length cap, .slice A' l'.length cap'], .slice At ts.length ct] w fun r w' => r = .returned (.bool true) ∧ Below w.heap.size w w' := by
  obtain ⟨nl, hnl⟩ : ∃ nl, l.length = nl := ⟨_, rfl⟩
  obtain ⟨nl', hnl'⟩ : ∃ nl, l'.length = nl := ⟨_, rfl⟩
  obtain ⟨nt, hnt⟩ : ∃ nt, ts.length = nt := ⟨_, rfl⟩
  obtain ⟨t1, ht1⟩ : ∃ t, manyB 60 l = t := ⟨_, rfl⟩
  obtain ⟨t2, ht2⟩ : ∃ t, manyB 60 l' = t := ⟨_, rfl⟩
  have HMany := Lib.hid (fun W (hW : Below w.heap.size w W) => many14 A cap l W w.heap.size (hl.rows.below hW) hW.size hm l.length rfl ht1)
  have HMany' := Lib.hid (fun W (hW : Below w.heap.size w W) => many14 A' cap' l' W w.heap.size (hl'.rows.below hW) hW.size hm' l'.length rfl ht2)
  have HRows := Lib.hid hl.rows
  have HRows' := Lib.hid hl'.rows
  have HT := Lib.hid ht
  have Ht1 := Lib.hid ht1
  have Ht2 := Lib.hid ht2
  have Hnl := Lib.hid hnl
  have Hnl' := Lib.hid hnl'
  have Hnt := Lib.hid hnt
  unfold maxLen at htm
  rw [hnl] at HMany ⊢
  rw [hnl'] at HMany' ⊢
  rw [hnt] at htm ⊢
  have hntm : (nt : Int) ≤ 9223372036854775807 := by omega
  obtain ⟨w2, hw2⟩ : ∃ w2, (w.alloc (.cells #[.int .i64 n0, .int .i64 n1, .int .i64 n2, .int .i64 n3] 38)).alloc (.cells #[.slice A nl cap, .slice A' nl' cap'] 39) = w2 := ⟨_, rfl⟩
  obtain ⟨g1, hg1⟩ : ∃ g, w.heap.size = g := ⟨_, rfl⟩
  have ha : Blk w2 w.heap.size 38 #[.int .i64 n0, .int .i64 n1, .int .i64 n2, .int .i64 n3] := by rw [← hw2]; exact (Blk.new _ _ _).alloc _
  have hbk : Blk w2 (w.heap.size + 1) 39 #[.slice A nl cap, .slice A' nl' cap'] := by rw [← hw2]; exact Blk.size (by simp)
  have hb2 : Below w.heap.size w w2 := by rw [← hw2]; exact (below_new _ _).alloc (by simp) _
  obtain ⟨g2, hg2⟩ : ∃ g, g1 + 1 = g := ⟨_, rfl⟩
  rw [hg1] at ha hbk
  rw [hg2] at hbk
  have HA := Lib.hid ha
  have HB := Lib.hid hbk
  have Hb2 := Lib.hid hb2
  obtain ⟨a0, a1, a2, a3⟩ := blk4f14 ha
  obtain ⟨b0, b1⟩ := blk2f14 hbk
  clear hl hm hl' hm' ht htm ht1 ht2 hnl hnl' hnt ha hbk hb2
  go_enter Try.func4, Try.ntmps4
  go_wp2_with fail
  with_reducible refine Calls.mono (wakes14 _) ?_
  rintro r w3 ⟨rfl, hb3⟩
  have HA3 := Lib.hid (HA.out.below hb3 HA.out.lt)
  have HB3 := Lib.hid (HB.out.below hb3 HB.out.lt)
  have Hb3 := Lib.hid (below_trans Hb2.out Hb2.out.size hb3)
  clear a0 a1 a2 a3 b0 b1 hb3 hw2 hg1 hg2 HA HB
  obtain ⟨b0, b1⟩ := blk2f14 HB3.out
  go_wp2_with fail
  with_reducible refine Calls.mono (HMany.out _ Hb3.out) ?_
  rintro r w4 ⟨rfl, hb4⟩
  have HA4 := Lib.hid (HA3.out.below hb4 HA3.out.lt)
  have HB4 := Lib.hid (HB3.out.below hb4 HB3.out.lt)
  have Hb4 := Lib.hid (below_trans Hb3.out Hb3.out.size hb4)
  clear b0 b1 hb4 HA3 HB3
  cases t1 with
  | true =>
    go_wp2
    go_ret
    exact ⟨rfl, Hb4.out⟩
  | false =>
  obtain ⟨b0, b1⟩ := blk2f14 HB4.out
  go_wp2_with fail
  with_reducible refine Calls.mono (HMany'.out _ Hb4.out) ?_
  rintro r w5 ⟨rfl, hb5⟩
  have HA5 := Lib.hid (HA4.out.below hb5 HA4.out.lt)
  have HB5 := Lib.hid (HB4.out.below hb5 HB4.out.lt)
  have Hb5 := Lib.hid (below_trans Hb4.out Hb4.out.size hb5)
  clear b0 b1 hb5 HA4 HB4
  cases t2 with
  | true =>
    go_wp2
    go_ret
    exact ⟨rfl, Hb5.out⟩
  | false =>
  by_cases h200 : (200 : Int) < (nt : Int)
  · go_wp2
    go_ret
    exact ⟨rfl, Hb5.out⟩
  have hnt2 : (nt : Int) ≤ 200 := by omega
  obtain ⟨a0, a1, a2, a3⟩ := blk4f14 HA5.out
  obtain ⟨b0, b1⟩ := blk2f14 HB5.out
  by_cases hne : n0 = n1
  · have e1 : (n0 == n1) = true := by simp [hne]
    clear hne
    go_wp2
    go_ret
    exact ⟨rfl, Hb5.out⟩
  have e1 : (n0 == n1) = false := by simp [hne]
  have Hne := Lib.hid hne
  obtain ⟨hl60, -⟩ := manyB_lens Ht1.out
  obtain ⟨hl60', -⟩ := manyB_lens Ht2.out
  have HNw := Lib.hid (suNew_stays A cap l w HRows.out hl60)
  have HRh := Lib.hid (rHeads_stays A cap l w HRows.out hl60)
  have HS0 := Lib.hid (heads60 hl60)
  have HNw' := Lib.hid (suNew_stays A' cap' l' w HRows'.out hl60')
  have HRh' := Lib.hid (rHeads_stays A' cap' l' w HRows'.out hl60')
  have HS1 := Lib.hid (heads60 hl60')
  rw [Hnl.out] at HNw HRh
  rw [Hnl'.out] at HNw' HRh'
  obtain ⟨S0, hS0⟩ : ∃ S, stbS (headsOf l) = S := ⟨_, rfl⟩
  rw [hS0] at HNw HRh HS0
  obtain ⟨S1, hS1⟩ : ∃ S, stbS (headsOf l') = S := ⟨_, rfl⟩
  rw [hS1] at HNw' HRh' HS1
  clear hl60 hl60' hS0 hS1 hne HMany HMany' HRows HRows' Ht1 Ht2 h200
  have HTwo := Lib.hid (two_any n0 n1 n2 n3 A nl cap A' nl' cap' w5)
  go_wp2_with fail
  with_reducible refine Calls.mono HTwo.out ?_
  rintro r w6 ⟨p1, p2, s1, s2, rfl, kp1, kp2, ks1, ks2, hbd, hb6⟩
  have HA6 := Lib.hid (HA5.out.below hb6 HA5.out.lt)
  have HB6 := Lib.hid (HB5.out.below hb6 HB5.out.lt)
  have Hb6 := Lib.hid (below_trans Hb5.out Hb5.out.size hb6)
  obtain ⟨q0, hq0⟩ : ∃ z, n2 % 4294967296 = z := ⟨_, rfl⟩
  obtain ⟨q1, hq1⟩ : ∃ z, n3 % 4294967296 = z := ⟨_, rfl⟩
  rw [hq0] at kp1
  rw [hq1] at kp2
  have Hq0 := Lib.hid (show 0 ≤ q0 ∧ q0 ≤ 4294967295 by omega)
  have Hq1 := Lib.hid (show 0 ≤ q1 ∧ q1 ≤ 4294967295 by omega)
  have HK6 := Lib.hid (show Blk w6 p1 65 (exA n0 n1 q0 false false false false false false 0 true true true q0 (.slice none 0 0) (.pointer none)) ∧ Blk w6 p2 65 (exA n1 n0 q1 false false false false false false 0 true true true q1 (.slice none 0 0) (.pointer none)) ∧ Blk w6 s1 48 #[.pointer (some ⟨p1, 0, none⟩), .slice A nl cap, .slice none 0 0] ∧ Blk w6 s2 48 #[.pointer (some ⟨p2, 0, none⟩), .slice A' nl' cap', .slice none 0 0] from ⟨kp1, kp2, ks1, ks2⟩)
  have HBd := Lib.hid hbd
  have H56 := Lib.hid hb6
  clear kp1 kp2 ks1 ks2 hb6 hq0 hq1 hbd a0 a1 a2 a3 b0 b1 HTwo HB5 e1
  go_wp2_with fail
  refine wp_region_F (F := fun W => Blk W g2 39 #[.slice A nl cap, .slice A' nl' cap']) (n := 8) (m := 8) (s := #[false, false, false, false, false, false, false, false]) (by kernel_rfl) (by kernel_rfl) (by kernel_rfl) ?_
  intro wd hwd
  have hb := (show Below w6.heap.size w6 wd by rw [hwd.out]; exact (Below.refl _ _).drew)
  have hF := HB6.out.below hb HB6.out.lt
  clear hwd
  have Hwd := Lib.hid (Nat.le_trans H56.out.size hb.size)
  refine G_take (i := 0) (d := some 41) (by decide) (s' := #[true, false, false, false, false, false, false, false]) (by kernel_rfl) rfl rfl (by kernel_rfl) (by kernel_rfl) (by kernel_rfl) (fun _ _ _ h => h) (Or.inl ⟨by kernel_rfl, fun W hW => by obtain ⟨b0, b1⟩ := blk2f14 hW; go_simp; try with_reducible rfl⟩) hF ?_
  go_frame
  refine G_take (i := 1) (d := some 42) (by decide) (s' := #[true, true, false, false, false, false, false, false]) (by kernel_rfl) rfl rfl (by kernel_rfl) (by kernel_rfl) (by kernel_rfl) (fun _ _ _ h => h) (Or.inl ⟨by kernel_rfl, fun W hW => by obtain ⟨b0, b1⟩ := blk2f14 hW; go_simp; try with_reducible rfl⟩) hF ?_
  go_frame
  refine G_take (i := 3) (d := some 44) (by decide) (s' := #[true, true, false, true, false, false, false, false]) (by kernel_rfl) rfl rfl (by kernel_rfl) (by kernel_rfl) (by kernel_rfl) (fun _ _ _ h => h) (Or.inl ⟨by kernel_rfl, fun W hW => by obtain ⟨b0, b1⟩ := blk2f14 hW; go_simp; try with_reducible rfl⟩) hF ?_
  go_frame
  refine G_take (i := 4) (d := some 45) (by decide) (s' := #[true, true, false, true, true, false, false, false]) (by kernel_rfl) rfl rfl (by kernel_rfl) (by kernel_rfl) (by kernel_rfl) (fun _ _ _ h => h) (Or.inl ⟨by kernel_rfl, fun W hW => by obtain ⟨b0, b1⟩ := blk2f14 hW; go_simp; try with_reducible rfl⟩) hF ?_
  go_frame
  refine F_one (i := 2) (s' := #[true, true, true, true, true, false, false, false]) (by kernel_rfl) (by kernel_rfl) ?_
  refine (wpOp_enterL (i := 2) (d := some 43) (f := 14) (args := #[.slice A nl cap]) rfl rfl (by kernel_rfl) (by go_simp) ((HRh.out wd (below_trans Hb6.out Hb6.out.size hb)).mono ?_))
  rintro r v1 ⟨⟨u0, rfl, hu0⟩, hb1⟩
  have hF := hF.below hb1 hF.lt
  have hb := below_trans hb hb.size hb1
  have Hv1 := Lib.hid (Nat.le_trans H56.out.size hb.size)
  obtain ⟨A0, m0, c0, hu0e, hm0⟩ := ownT_slice hu0
  subst hu0e
  refine ⟨_, rfl, fun _ => hF, ?_⟩
  go_frame
  refine F_one (i := 5) (s' := #[true, true, true, true, true, true, false, false]) (by kernel_rfl) (by kernel_rfl) ?_
  refine (wpOp_enterL (i := 5) (d := some 46) (f := 14) (args := #[.slice A' nl' cap']) rfl rfl (by kernel_rfl) (by go_simp) ((HRh'.out v1 (below_trans Hb6.out Hb6.out.size hb)).mono ?_))
  rintro r v2 ⟨⟨u1, rfl, hu1⟩, hb2⟩
  have hF := hF.below hb2 hF.lt
  have hb := below_trans hb hb.size hb2
  have hu0 := hu0.below hb2
  obtain ⟨A1, m1, c1, hu1e, hm1⟩ := ownT_slice hu1
  subst hu1e
  refine ⟨_, rfl, fun _ => hF, ?_⟩
  go_frame
  refine G_take (i := 6) (d := some 9) (by decide) (s' := #[true, true, true, true, true, true, true, false]) (by kernel_rfl) rfl rfl (by kernel_rfl) (by kernel_rfl) (by kernel_rfl) (fun _ _ _ h => h) (Or.inl ⟨by kernel_rfl, fun W hW => by go_simp; try with_reducible rfl⟩) hF ?_
  go_frame
  refine G_take (i := 7) (d := some 10) (by decide) (s' := #[true, true, true, true, true, true, true, true]) (by kernel_rfl) rfl rfl (by kernel_rfl) (by kernel_rfl) (by kernel_rfl) (fun _ _ _ h => h) (Or.inl ⟨by kernel_rfl, fun W hW => by go_simp; try with_reducible rfl⟩) hF ?_
  go_frame
  refine F_done (by kernel_rfl) ?_ _
  have HW2 := Lib.hid (below_trans H56.out H56.out.size hb)
  have kk1 := HK6.out.1.below hb HK6.out.1.lt
  have kk2 := HK6.out.2.1.below hb HK6.out.2.1.lt
  have HSd := Lib.hid (show AnyM w5 v2 s1 s2 p1 p2 p1 p2 (.slice A nl cap) (.slice A' nl' cap') (freshX n0 n1 q0) (freshX n1 n0 q1) (.slice none 0 0) (.slice none 0 0) [] [] (.slice A0 m0 c0) (.slice A1 m1 c1) S0 S1 from ⟨⟨.fresh kk1 Hq0.out, .fresh kk2 Hq1.out, HK6.out.2.2.1.below hb HK6.out.2.2.1.lt, HK6.out.2.2.2.below hb HK6.out.2.2.2.lt, OwnR.nil _ _, OwnR.nil _ _, .inl rfl, HBd.out.2.2.2.2, HBd.out.2.2.2.2.1, ⟨kk1.lt, kk2.lt⟩, ⟨HBd.out.2.2.1, HBd.out.2.2.2.1, HBd.out.1, HBd.out.2.1, HBd.out.1, HBd.out.2.1⟩, ⟨Nat.zero_le _, Nat.zero_le _⟩, ⟨Nat.zero_le _, Nat.zero_le _⟩, HW2.out⟩, hu0.lower Hwd.out, hu1.lower Hv1.out, (fun g e => ⟨(fun e2 => by cases e2), (fun e2 => by cases e2)⟩), (fun g e => ⟨(fun e2 => by cases e2), (fun e2 => by cases e2)⟩)⟩)
  have Hm0 := Lib.hid hm0
  have Hm1 := Lib.hid hm1
  have hm0i : (m0 : Int) ≤ 60 := by have := HS0.out; omega
  have hm1i : (m1 : Int) ≤ 60 := by have := HS1.out; omega
  have Hc0 := Lib.hid (cap_le hu0)
  have Hc1 := Lib.hid (cap_le hu1)
  clear hu0 hu1 hb hb1 hb2 hF kk1 kk2 hm0 hm1 HK6 HBd HB6 HA6
  go_wp2
  go_loopw [50] (fun i wr => ∃ (k qa qb ρ : Nat) (x y : ExM) (ta tb : Value) (tx ty : List Hd), i = .int .i64 k ∧ k ≤ nt + 100 ∧ Hid (AnyM w5 wr s1 s2 p1 p2 qa qb (.slice A nl cap) (.slice A' nl' cap') x y ta tb tx ty (.slice A0 m0 c0) (.slice A1 m1 c1) S0 S1 ∧ WayW n0 n1 q0 q1 S0 S1 ρ x y tx ty ∧ (nt ≤ k → NearX n0 n1 (k - nt) (decide (k % 2 = 0)) ρ) ∧ 0 ≤ k)) (fun i _ => nt + 101 - (intOf i).toNat)
  case atStart => exact ⟨0, p1, p2, 0, _, _, _, _, _, _, rfl, Nat.zero_le _, Lib.hid ⟨HSd.out, .start Hne.out, fun h => by rw [Nat.zero_sub]; exact near_start _, Nat.zero_le _⟩⟩
  case round =>
    obtain ⟨k, qa, qb, ρ, x, y, ta, tb, tx, ty, rfl, hk, HJ⟩ := hrel
    obtain ⟨wo, hwo⟩ : ∃ wo, wo = wr := ⟨_, rfl⟩
    subst hwo
    by_cases hlt : k < nt + 100
    · have hkl : (k : Int) < (nt : Int) + 100 := by omega
      have hk0 : 0 ≤ (k : Int) := by omega
      have Hlt := Lib.hid hlt
      clear hlt hk
      obtain ⟨tn, htn⟩ : ∃ tn : Bool, (∀ h : k < ts.length, ts[k] = tn) ∧ (¬ k < ts.length → ((k : Int) % 2 == 0) = tn) := by
        by_cases h : k < ts.length
        · exact ⟨ts[k], fun _ => rfl, fun e => absurd h e⟩
        · exact ⟨_, fun e => absurd e h, fun _ => rfl⟩
      have Htn := Lib.hid htn
      clear htn
      go_upto_if 59 with fail
      go_cut [12] from 53 to 64 (fun v wx => v = .bool tn ∧ wx = wo)
      case first =>
        by_cases hkt : k < ts.length
        · obtain ⟨gt, ot, hA, x0⟩ := row_tc14 (HT.out.below (below_trans Hb5.out Hb5.out.size HJ.out.1.s.below)) k hkt
          have hkn : (k : Int) < (nt : Int) := by have := Hnt.out; omega
          have hv := Htn.out.1 hkt
          rw [hv] at x0
          subst hA
          clear hv hkt
          go_wp2_with fail
          go_meet
          exact ⟨rfl, rfl⟩
        · have hkn : ¬ (k : Int) < (nt : Int) := by have := Hnt.out; omega
          have Hv := Lib.hid (Htn.out.2 hkt)
          clear hkt
          go_wp2_with fail
          go_meet
          exact ⟨by rw [Hv.out], rfl⟩
      case rest =>
      obtain ⟨rfl, hwc⟩ := hcut
      have hwc := hwc.symm
      subst hwc
      have Hlen := Lib.hid (show tx.length ≤ 60 ∧ ty.length ≤ 60 from by have := HJ.out.2.1.begins; have := HS0.out; have := HS1.out; omega)
      have HNx := Lib.hid (fun W (hW : Below w5.heap.size w5 W) => HNw.out W (below_trans Hb5.out Hb5.out.size hW))
      have HNx' := Lib.hid (fun W (hW : Below w5.heap.size w5 W) => HNw'.out W (below_trans Hb5.out Hb5.out.size hW))
      have HL := Lib.hid (hears_any w5 wo s1 s2 p1 p2 qa qb A nl cap _ x y ta tb tx ty S0 HS0.out HJ.out.1.s (by have := Hlen.out.1; omega) HNx.out)
      have HR := Lib.hid (hears_any w5 wo s2 s1 p2 p1 qb qa A' nl' cap' _ y x tb ta ty tx S1 HS1.out HJ.out.1.s.swap (by have := Hlen.out.2; omega) HNx'.out)
      go_upto_region 13 with fail
      go_cut [98] from 65 to 99 (fun v wx => v = .bool false ∧ ∃ (qa qb ρ' : Nat) (x y : ExM) (ta tb : Value) (tx ty : List Hd), Hid (AnyM w5 wx s1 s2 p1 p2 qa qb (.slice A nl cap) (.slice A' nl' cap') x y ta tb tx ty (.slice A0 m0 c0) (.slice A1 m1 c1) S0 S1 ∧ WayW n0 n1 q0 q1 S0 S1 ρ' x y tx ty ∧ stepR n0 n1 tn ρ ρ'))
      case first =>
        cases tn with
        | false =>
          go_wp2_with fail
          with_reducible refine Calls.mono HR.out ?_
          rintro r w6 hh
          obtain ⟨rfl, q', t', hM⟩ := HJ.out.1.right hh
          obtain ⟨hz3, ρ', hW', hst⟩ := HJ.out.2.1.right HS0.out HS1.out Hq0.out Hq1.out
          have hz : ((hearM y x.said S1).2 != 3) = true := by simpa using hz3
          rw [hz]
          obtain ⟨z', hz'⟩ : ∃ z', (hearM y x.said S1).1 = z' := ⟨_, rfl⟩
          obtain ⟨tz', htz'⟩ : ∃ tz', tookX ty (hearM y x.said S1).2 x.said.hs = tz' := ⟨_, rfl⟩
          rw [hz', htz'] at hM hW'
          obtain ⟨Ax, nx, cx, hvx, hnx⟩ := ownT_slice hM.s.oa
          obtain ⟨Ay, ny, cy, hvy, hny⟩ := ownT_slice hM.s.ob
          subst hvx hvy
          have hbg := hW'.begins
          have HM := Lib.hid hM
          have HW := Lib.hid hW'
          have Hst := Lib.hid hst
          have CB1 := Lib.hid (fun W (hW : Below w6.heap.size w6 W) => begins_any Ax A1 nx cx m1 c1 tx S1 W (OwnR.rows (C := 7) (cells := Hd.cells) (fun _ => rfl) (HM.out.keep hW).s.oa).2 (OwnR.rows (C := 7) (cells := Hd.cells) (fun _ => rfl) (HM.out.keep hW).o1).2 hnx Hm1.out Hc1.out (by rw [← hnx]; exact hbg.1) (by rw [← hnx, ← Hm1.out]; exact hbg.2.1) (by omega))
          have CB2 := Lib.hid (fun W (hW : Below w6.heap.size w6 W) => begins_any Ay A0 ny cy m0 c0 tz' S0 W (OwnR.rows (C := 7) (cells := Hd.cells) (fun _ => rfl) (HM.out.keep hW).s.ob).2 (OwnR.rows (C := 7) (cells := Hd.cells) (fun _ => rfl) (HM.out.keep hW).o0).2 hny Hm0.out Hc0.out (by rw [← hny]; exact hbg.2.2.1) (by rw [← hny, ← Hm0.out]; exact hbg.2.2.2.1) (by omega))
          obtain ⟨e0, e1, e2⟩ : _ ∧ _ ∧ _ := ⟨HM.out.s.ba.cell 0, HM.out.s.ba.cell 1, HM.out.s.ba.cell 2⟩
          simp only [List.getElem?_toArray, List.getElem?_cons_zero, List.getElem?_cons_succ] at e0 e1 e2
          clear hh hM hz3 hW' hst hz hz' htz' hnx hny hbg HL HR HNx HNx'
          go_wp2_with fail
          with_reducible refine Calls.mono (CB1.out _ (Below.refl _ _)) ?_
          rintro r w7 ⟨rfl, hb7⟩
          have HM7 := Lib.hid (HM.out.keep hb7)
          have HB7 := Lib.hid hb7
          clear e0 e1 e2 hb7
          obtain ⟨e0, e1, e2⟩ : _ ∧ _ ∧ _ := ⟨HM7.out.s.bb.cell 0, HM7.out.s.bb.cell 1, HM7.out.s.bb.cell 2⟩
          simp only [List.getElem?_toArray, List.getElem?_cons_zero, List.getElem?_cons_succ] at e0 e1 e2
          go_wp2_with fail
          with_reducible refine Calls.mono (CB2.out _ HB7.out) ?_
          rintro r w8 ⟨rfl, hb8⟩
          have HM8 := Lib.hid (HM7.out.keep hb8)
          clear e0 e1 e2 hb8
          go_wp2_with fail
          go_meet
          exact ⟨rfl, qa, q', ρ', x, z', _, _, tx, tz', Lib.hid ⟨HM8.out, HW.out, Hst.out⟩⟩
        | true =>
          go_wp2_with fail
          with_reducible refine Calls.mono HL.out ?_
          rintro r w6 hh
          obtain ⟨rfl, q', t', hM⟩ := HJ.out.1.left hh
          obtain ⟨hz3, ρ', hW', hst⟩ := HJ.out.2.1.left HS0.out HS1.out Hq0.out Hq1.out
          have hz : ((hearM x y.said S0).2 != 3) = true := by simpa using hz3
          rw [hz]
          obtain ⟨z', hz'⟩ : ∃ z', (hearM x y.said S0).1 = z' := ⟨_, rfl⟩
          obtain ⟨tz', htz'⟩ : ∃ tz', tookX tx (hearM x y.said S0).2 y.said.hs = tz' := ⟨_, rfl⟩
          rw [hz', htz'] at hM hW'
          obtain ⟨Ax, nx, cx, hvx, hnx⟩ := ownT_slice hM.s.oa
          obtain ⟨Ay, ny, cy, hvy, hny⟩ := ownT_slice hM.s.ob
          subst hvx hvy
          have hbg := hW'.begins
          have HM := Lib.hid hM
          have HW := Lib.hid hW'
          have Hst := Lib.hid hst
          have CB1 := Lib.hid (fun W (hW : Below w6.heap.size w6 W) => begins_any Ax A1 nx cx m1 c1 tz' S1 W (OwnR.rows (C := 7) (cells := Hd.cells) (fun _ => rfl) (HM.out.keep hW).s.oa).2 (OwnR.rows (C := 7) (cells := Hd.cells) (fun _ => rfl) (HM.out.keep hW).o1).2 hnx Hm1.out Hc1.out (by rw [← hnx]; exact hbg.1) (by rw [← hnx, ← Hm1.out]; exact hbg.2.1) (by omega))
          have CB2 := Lib.hid (fun W (hW : Below w6.heap.size w6 W) => begins_any Ay A0 ny cy m0 c0 ty S0 W (OwnR.rows (C := 7) (cells := Hd.cells) (fun _ => rfl) (HM.out.keep hW).s.ob).2 (OwnR.rows (C := 7) (cells := Hd.cells) (fun _ => rfl) (HM.out.keep hW).o0).2 hny Hm0.out Hc0.out (by rw [← hny]; exact hbg.2.2.1) (by rw [← hny, ← Hm0.out]; exact hbg.2.2.2.1) (by omega))
          obtain ⟨e0, e1, e2⟩ : _ ∧ _ ∧ _ := ⟨HM.out.s.ba.cell 0, HM.out.s.ba.cell 1, HM.out.s.ba.cell 2⟩
          simp only [List.getElem?_toArray, List.getElem?_cons_zero, List.getElem?_cons_succ] at e0 e1 e2
          clear hh hM hz3 hW' hst hz hz' htz' hnx hny hbg HL HR HNx HNx'
          go_wp2_with fail
          with_reducible refine Calls.mono (CB1.out _ (Below.refl _ _)) ?_
          rintro r w7 ⟨rfl, hb7⟩
          have HM7 := Lib.hid (HM.out.keep hb7)
          have HB7 := Lib.hid hb7
          clear e0 e1 e2 hb7
          obtain ⟨e0, e1, e2⟩ : _ ∧ _ ∧ _ := ⟨HM7.out.s.bb.cell 0, HM7.out.s.bb.cell 1, HM7.out.s.bb.cell 2⟩
          simp only [List.getElem?_toArray, List.getElem?_cons_zero, List.getElem?_cons_succ] at e0 e1 e2
          go_wp2_with fail
          with_reducible refine Calls.mono (CB2.out _ HB7.out) ?_
          rintro r w8 ⟨rfl, hb8⟩
          have HM8 := Lib.hid (HM7.out.keep hb8)
          clear e0 e1 e2 hb8
          go_wp2_with fail
          go_meet
          exact ⟨rfl, q', qb, ρ', z', y, _, _, tz', ty, Lib.hid ⟨HM8.out, HW.out, Hst.out⟩⟩
      case rest =>
      have HJ0 := HJ
      clear HJ HL HR HNx HNx' Hlen
      have HNr := Lib.hid (show ∀ ρ', stepR n0 n1 tn ρ ρ' → nt ≤ k + 1 → NearX n0 n1 (k + 1 - nt) (decide ((k + 1) % 2 = 0)) ρ' from fun ρ' hst hle => by
        by_cases hkt : nt ≤ k
        · have h1 := near_step (HJ0.out.2.2.1 hkt) (turn := decide (k % 2 = 0)) (ρ' := ρ') (by
            have h2 := Htn.out.2 (by have := Hnt.out; omega)
            have h3 : tn = decide (k % 2 = 0) := by rw [← h2, Bool.eq_iff_iff, beq_iff_eq, decide_eq_true_eq]; omega
            rw [← h3]
            exact hst)
          have e1 : k - nt + 1 = k + 1 - nt := by omega
          have e2 : (!decide (k % 2 = 0)) = decide ((k + 1) % 2 = 0) := by
            rw [Bool.eq_iff_iff, Bool.not_eq_true', decide_eq_false_iff_not, decide_eq_true_eq]; omega
          rw [e1, e2] at h1
          exact h1
        · have e1 : k + 1 - nt = 0 := by omega
          rw [e1]
          exact near_start _)
      clear HJ0
      obtain ⟨rfl, qa2, qb2, ρ2, x2, y2, ta2, tb2, tx2, ty2, HN⟩ := hcut
      obtain ⟨Ax, nx, cx, hvx, hnx⟩ := ownT_slice HN.out.1.s.oa
      obtain ⟨Ay, ny, cy, hvy, hny⟩ := ownT_slice HN.out.1.s.ob
      subst hvx hvy
      obtain ⟨xv, hxv, -⟩ := HN.out.1.s.xa.ptr
      obtain ⟨yv, hyv, -⟩ := HN.out.1.s.xb.ptr
      have hbg := HN.out.2.1.begins
      obtain ⟨dx, hdx⟩ : ∃ d, x2.dn = d := ⟨_, rfl⟩
      obtain ⟨dy, hdy⟩ : ∃ d, y2.dn = d := ⟨_, rfl⟩
      have HD1 := Lib.hid (done_any p1 dx wc (by have := hxv.cell 5; simpa [ExM.ar, exA, hdx] using this))
      have HD2 := Lib.hid (done_any p2 dy wc (by have := hyv.cell 5; simpa [ExM.ar, exA, hdy] using this))
      have hlx : dx = true → ¬ (nx : Int) < (m1 : Int) := fun e => by have h1 := hbg.2.2.2.2.1 (hdx.trans e); rw [h1] at hnx; have := Hm1.out; omega
      have hly : dy = true → ¬ (ny : Int) < (m0 : Int) := fun e => by have h1 := hbg.2.2.2.2.2 (hdy.trans e); rw [h1] at hny; have := Hm0.out; omega
      obtain ⟨e0, e1, e2⟩ : _ ∧ _ ∧ _ := ⟨HN.out.1.s.ba.cell 0, HN.out.1.s.ba.cell 1, HN.out.1.s.ba.cell 2⟩
      obtain ⟨f0, f1, f2⟩ : _ ∧ _ ∧ _ := ⟨HN.out.1.s.bb.cell 0, HN.out.1.s.bb.cell 1, HN.out.1.s.bb.cell 2⟩
      simp only [List.getElem?_toArray, List.getElem?_cons_zero, List.getElem?_cons_succ] at e0 e1 e2 f0 f1 f2
      clear hxv hyv hbg hdx hdy hnx hny
      have key : (dx = false ∧ dy = false) ∨ (dx = false ∧ dy = true ∧ ¬ (ny : Int) < (m0 : Int)) ∨ (dx = true ∧ ¬ (nx : Int) < (m1 : Int) ∧ dy = false) ∨ (dx = true ∧ ¬ (nx : Int) < (m1 : Int) ∧ dy = true ∧ ¬ (ny : Int) < (m0 : Int)) := by
        cases dx <;> cases dy <;> simp_all
      clear hlx hly
      rcases key with ⟨rfl, rfl⟩ | ⟨rfl, rfl, hly⟩ | ⟨rfl, hlx, rfl⟩ | ⟨rfl, hlx, rfl, hly⟩
      all_goals
        go_wp2_with (first
          | (go_at_call 17; (with_reducible refine Calls.mono HD1.out ?_); rintro r wx ⟨rfl, rfl⟩)
          | (go_at_call 17; (with_reducible refine Calls.mono HD2.out ?_); rintro r wx ⟨rfl, rfl⟩))
        go_roundw
        case measure => have := Hlt.out; simp [intOf]; omega
        case rel => exact ⟨k + 1, qa2, qb2, ρ2, x2, y2, _, _, tx2, ty2, by go_num, Hlt.out, Lib.hid ⟨HN.out.1, HN.out.2.1, HNr.out _ HN.out.2.2, Nat.zero_le _⟩⟩
    · have hkl : ¬ (k : Int) < (nt : Int) + 100 := by omega
      have h100 := HJ.out.2.1.near HS0.out HS1.out (HJ.out.2.2.1 (by omega)) (by omega)
      have hW := HJ.out.2.1
      rw [h100] at hW
      obtain ⟨hdx, hdy, hlx, hly, -⟩ := hW.ends HS0.out HS1.out
      obtain ⟨xv, hxv, -⟩ := HJ.out.1.s.xa.ptr
      obtain ⟨yv, hyv, -⟩ := HJ.out.1.s.xb.ptr
      have HCx := Lib.hid (fun W (hW : Below wo.heap.size wo W) => (show W.cell? ⟨p1, 5, none⟩ = some (.bool true) ∧ W.cell? ⟨p1, 4, none⟩ = some (.bool (decide (n1 < n0))) from by
        have h := hxv.below hW hxv.lt
        have h5 := h.cell 5
        have h4 := h.cell 4
        simp [ExM.ar, exA, hdx, hlx] at h5 h4
        exact ⟨h5, h4⟩))
      have HCy := Lib.hid (fun W (hW : Below wo.heap.size wo W) => (show W.cell? ⟨p2, 5, none⟩ = some (.bool true) ∧ W.cell? ⟨p2, 4, none⟩ = some (.bool (!decide (n1 < n0))) from by
        have h := hyv.below hW hyv.lt
        have h5 := h.cell 5
        have h4 := h.cell 4
        simp [ExM.ar, exA, hdy, hly, hlx] at h5 h4
        exact ⟨h5, by rw [h4]; try simp⟩))
      have HCs := Lib.hid (fun W (hW : Below wo.heap.size wo W) => (show W.cell? ⟨s1, 0, none⟩ = some (.pointer (some ⟨p1, 0, none⟩)) ∧ W.cell? ⟨s2, 0, none⟩ = some (.pointer (some ⟨p2, 0, none⟩)) ∧ W.cell? ⟨g1, 0, none⟩ = some (.int .i64 n0) ∧ W.cell? ⟨g1, 1, none⟩ = some (.int .i64 n1) from ⟨(HJ.out.1.s.ba.below hW HJ.out.1.s.ba.lt).cell 0, (HJ.out.1.s.bb.below hW HJ.out.1.s.bb.lt).cell 0, ((HA5.out.below HJ.out.1.s.below HA5.out.lt).below hW (HA5.out.below HJ.out.1.s.below HA5.out.lt).lt).cell 0, ((HA5.out.below HJ.out.1.s.below HA5.out.lt).below hW (HA5.out.below HJ.out.1.s.below HA5.out.lt).lt).cell 1⟩))
      have HBe := Lib.hid (below_trans Hb5.out Hb5.out.size HJ.out.1.s.below)
      clear h100 hW hdx hdy hlx hly hxv hyv hlt hk HJ
      go_upto_region 18 with fail
      rcases Classical.em (n1 < n0) with hlt | hlt
  
      · have hdl : decide (n1 < n0) = true := by simp [hlt]
        rw [hdl] at HCx HCy
        clear hlt
        refine wp_region_F (F := fun W => Below wo.heap.size wo W) (n := 39) (m := 39) (s := #[false, false, false, false, false, false, false, false, false, false, false, false, false, false, false, false, false, false, false, false, false, false, false, false, false, false, false, false, false, false, false, false, false, false, false, false, false, false, false]) (by kernel_rfl) (by kernel_rfl) (by kernel_rfl) ?_
        intro wd hwd
        have hF : Below wo.heap.size wo wd := by rw [hwd.out]; exact (Below.refl _ _).drew
        clear hwd
        refine G_take (i := 0) (d := some 132) (by decide) (s' := #[true, false, false, false, false, false, false, false, false, false, false, false, false, false, false, false, false, false, false, false, false, false, false, false, false, false, false, false, false, false, false, false, false, false, false, false, false, false, false]) (by kernel_rfl) rfl rfl (by kernel_rfl) (by kernel_rfl) (by kernel_rfl) (fun _ _ _ h => h) (Or.inl ⟨by kernel_rfl, fun W hW => by obtain ⟨x5, x4⟩ := HCx.out W hW; obtain ⟨y5, y4⟩ := HCy.out W hW; obtain ⟨z0, z1, z2, z3⟩ := HCs.out W hW; go_simp; try with_reducible rfl⟩) hF ?_
        go_frame
        refine G_take (i := 1) (d := some 133) (by decide) (s' := #[true, true, false, false, false, false, false, false, false, false, false, false, false, false, false, false, false, false, false, false, false, false, false, false, false, false, false, false, false, false, false, false, false, false, false, false, false, false, false]) (by kernel_rfl) rfl rfl (by kernel_rfl) (by kernel_rfl) (by kernel_rfl) (fun _ _ _ h => h) (Or.inl ⟨by kernel_rfl, fun W hW => by obtain ⟨x5, x4⟩ := HCx.out W hW; obtain ⟨y5, y4⟩ := HCy.out W hW; obtain ⟨z0, z1, z2, z3⟩ := HCs.out W hW; go_simp; try with_reducible rfl⟩) hF ?_
        go_frame
        refine G_take (i := 2) (d := some 134) (by decide) (s' := #[true, true, true, false, false, false, false, false, false, false, false, false, false, false, false, false, false, false, false, false, false, false, false, false, false, false, false, false, false, false, false, false, false, false, false, false, false, false, false]) (by kernel_rfl) rfl rfl (by kernel_rfl) (by kernel_rfl) (by kernel_rfl) (fun _ _ _ h => h) (Or.inl ⟨by kernel_rfl, fun W hW => by obtain ⟨x5, x4⟩ := HCx.out W hW; obtain ⟨y5, y4⟩ := HCy.out W hW; obtain ⟨z0, z1, z2, z3⟩ := HCs.out W hW; go_simp; try with_reducible rfl⟩) hF ?_
        go_frame
        refine G_take (i := 3) (d := some 135) (by decide) (s' := #[true, true, true, true, false, false, false, false, false, false, false, false, false, false, false, false, false, false, false, false, false, false, false, false, false, false, false, false, false, false, false, false, false, false, false, false, false, false, false]) (by kernel_rfl) rfl rfl (by kernel_rfl) (by kernel_rfl) (by kernel_rfl) (fun _ _ _ h => h) (Or.inl ⟨by kernel_rfl, fun W hW => by obtain ⟨x5, x4⟩ := HCx.out W hW; obtain ⟨y5, y4⟩ := HCy.out W hW; obtain ⟨z0, z1, z2, z3⟩ := HCs.out W hW; go_simp; try with_reducible rfl⟩) hF ?_
        go_frame
        refine F_one (i := 4) (s' := #[true, true, true, true, true, false, false, false, false, false, false, false, false, false, false, false, false, false, false, false, false, false, false, false, false, false, false, false, false, false, false, false, false, false, false, false, false, false, false]) (by kernel_rfl) (by kernel_rfl) ?_
        refine (wpOp_enterL (i := 4) (d := some 136) (f := 17) (args := #[.pointer (some ⟨p1, 0, none⟩)]) rfl rfl (by kernel_rfl) (by go_simp) ((done_any p1 true _ (HCx.out _ hF).1).mono ?_))
        rintro r vx ⟨rfl, rfl⟩
        refine ⟨_, rfl, fun _ => hF, ?_⟩
        go_frame
        refine G_take (i := 5) (d := some 137) (by decide) (s' := #[true, true, true, true, true, true, false, false, false, false, false, false, false, false, false, false, false, false, false, false, false, false, false, false, false, false, false, false, false, false, false, false, false, false, false, false, false, false, false]) (by kernel_rfl) rfl rfl (by kernel_rfl) (by kernel_rfl) (by kernel_rfl) (fun _ _ _ h => h) (Or.inl ⟨by kernel_rfl, fun W hW => by obtain ⟨x5, x4⟩ := HCx.out W hW; obtain ⟨y5, y4⟩ := HCy.out W hW; obtain ⟨z0, z1, z2, z3⟩ := HCs.out W hW; go_simp; try with_reducible rfl⟩) hF ?_
        go_frame
        refine G_take (i := 6) (d := some 138) (by decide) (s' := #[true, true, true, true, true, true, true, false, false, false, false, false, false, false, false, false, false, false, false, false, false, false, false, false, false, false, false, false, false, false, false, false, false, false, false, false, false, false, false]) (by kernel_rfl) rfl rfl (by kernel_rfl) (by kernel_rfl) (by kernel_rfl) (fun _ _ _ h => h) (Or.inl ⟨by kernel_rfl, fun W hW => by obtain ⟨x5, x4⟩ := HCx.out W hW; obtain ⟨y5, y4⟩ := HCy.out W hW; obtain ⟨z0, z1, z2, z3⟩ := HCs.out W hW; go_simp; try with_reducible rfl⟩) hF ?_
        go_frame
        refine G_take (i := 7) (d := some 139) (by decide) (s' := #[true, true, true, true, true, true, true, true, false, false, false, false, false, false, false, false, false, false, false, false, false, false, false, false, false, false, false, false, false, false, false, false, false, false, false, false, false, false, false]) (by kernel_rfl) rfl rfl (by kernel_rfl) (by kernel_rfl) (by kernel_rfl) (fun _ _ _ h => h) (Or.inl ⟨by kernel_rfl, fun W hW => by obtain ⟨x5, x4⟩ := HCx.out W hW; obtain ⟨y5, y4⟩ := HCy.out W hW; obtain ⟨z0, z1, z2, z3⟩ := HCs.out W hW; go_simp; try with_reducible rfl⟩) hF ?_
        go_frame
        refine G_take (i := 8) (d := some 140) (by decide) (s' := #[true, true, true, true, true, true, true, true, true, false, false, false, false, false, false, false, false, false, false, false, false, false, false, false, false, false, false, false, false, false, false, false, false, false, false, false, false, false, false]) (by kernel_rfl) rfl rfl (by kernel_rfl) (by kernel_rfl) (by kernel_rfl) (fun _ _ _ h => h) (Or.inl ⟨by kernel_rfl, fun W hW => by obtain ⟨x5, x4⟩ := HCx.out W hW; obtain ⟨y5, y4⟩ := HCy.out W hW; obtain ⟨z0, z1, z2, z3⟩ := HCs.out W hW; go_simp; try with_reducible rfl⟩) hF ?_
        go_frame
        refine G_take (i := 9) (d := some 141) (by decide) (s' := #[true, true, true, true, true, true, true, true, true, true, false, false, false, false, false, false, false, false, false, false, false, false, false, false, false, false, false, false, false, false, false, false, false, false, false, false, false, false, false]) (by kernel_rfl) rfl rfl (by kernel_rfl) (by kernel_rfl) (by kernel_rfl) (fun _ _ _ h => h) (Or.inl ⟨by kernel_rfl, fun W hW => by obtain ⟨x5, x4⟩ := HCx.out W hW; obtain ⟨y5, y4⟩ := HCy.out W hW; obtain ⟨z0, z1, z2, z3⟩ := HCs.out W hW; go_simp; try with_reducible rfl⟩) hF ?_
        go_frame
        refine F_one (i := 10) (s' := #[true, true, true, true, true, true, true, true, true, true, true, false, false, false, false, false, false, false, false, false, false, false, false, false, false, false, false, false, false, false, false, false, false, false, false, false, false, false, false]) (by kernel_rfl) (by kernel_rfl) ?_
        refine (wpOp_enterL (i := 10) (d := some 142) (f := 17) (args := #[.pointer (some ⟨p2, 0, none⟩)]) rfl rfl (by kernel_rfl) (by go_simp) ((done_any p2 true _ (HCy.out _ hF).1).mono ?_))
        rintro r vx ⟨rfl, rfl⟩
        refine ⟨_, rfl, fun _ => hF, ?_⟩
        go_frame
        refine G_take (i := 11) (d := some 143) (by decide) (s' := #[true, true, true, true, true, true, true, true, true, true, true, true, false, false, false, false, false, false, false, false, false, false, false, false, false, false, false, false, false, false, false, false, false, false, false, false, false, false, false]) (by kernel_rfl) rfl rfl (by kernel_rfl) (by kernel_rfl) (by kernel_rfl) (fun _ _ _ h => h) (Or.inl ⟨by kernel_rfl, fun W hW => by obtain ⟨x5, x4⟩ := HCx.out W hW; obtain ⟨y5, y4⟩ := HCy.out W hW; obtain ⟨z0, z1, z2, z3⟩ := HCs.out W hW; go_simp; try with_reducible rfl⟩) hF ?_
        go_frame
        refine G_take (i := 12) (d := some 144) (by decide) (s' := #[true, true, true, true, true, true, true, true, true, true, true, true, true, false, false, false, false, false, false, false, false, false, false, false, false, false, false, false, false, false, false, false, false, false, false, false, false, false, false]) (by kernel_rfl) rfl rfl (by kernel_rfl) (by kernel_rfl) (by kernel_rfl) (fun _ _ _ h => h) (Or.inl ⟨by kernel_rfl, fun W hW => by obtain ⟨x5, x4⟩ := HCx.out W hW; obtain ⟨y5, y4⟩ := HCy.out W hW; obtain ⟨z0, z1, z2, z3⟩ := HCs.out W hW; go_simp; try with_reducible rfl⟩) hF ?_
        go_frame
        refine G_take (i := 13) (d := some 145) (by decide) (s' := #[true, true, true, true, true, true, true, true, true, true, true, true, true, true, false, false, false, false, false, false, false, false, false, false, false, false, false, false, false, false, false, false, false, false, false, false, false, false, false]) (by kernel_rfl) rfl rfl (by kernel_rfl) (by kernel_rfl) (by kernel_rfl) (fun _ _ _ h => h) (Or.inl ⟨by kernel_rfl, fun W hW => by obtain ⟨x5, x4⟩ := HCx.out W hW; obtain ⟨y5, y4⟩ := HCy.out W hW; obtain ⟨z0, z1, z2, z3⟩ := HCs.out W hW; go_simp; try with_reducible rfl⟩) hF ?_
        go_frame
        refine G_take (i := 14) (d := some 146) (by decide) (s' := #[true, true, true, true, true, true, true, true, true, true, true, true, true, true, true, false, false, false, false, false, false, false, false, false, false, false, false, false, false, false, false, false, false, false, false, false, false, false, false]) (by kernel_rfl) rfl rfl (by kernel_rfl) (by kernel_rfl) (by kernel_rfl) (fun _ _ _ h => h) (Or.inl ⟨by kernel_rfl, fun W hW => by obtain ⟨x5, x4⟩ := HCx.out W hW; obtain ⟨y5, y4⟩ := HCy.out W hW; obtain ⟨z0, z1, z2, z3⟩ := HCs.out W hW; go_simp; try with_reducible rfl⟩) hF ?_
        go_frame
        refine G_take (i := 15) (d := some 147) (by decide) (s' := #[true, true, true, true, true, true, true, true, true, true, true, true, true, true, true, true, false, false, false, false, false, false, false, false, false, false, false, false, false, false, false, false, false, false, false, false, false, false, false]) (by kernel_rfl) rfl rfl (by kernel_rfl) (by kernel_rfl) (by kernel_rfl) (fun _ _ _ h => h) (Or.inl ⟨by kernel_rfl, fun W hW => by obtain ⟨x5, x4⟩ := HCx.out W hW; obtain ⟨y5, y4⟩ := HCy.out W hW; obtain ⟨z0, z1, z2, z3⟩ := HCs.out W hW; go_simp; try with_reducible rfl⟩) hF ?_
        go_frame
        refine G_take (i := 16) (d := some 148) (by decide) (s' := #[true, true, true, true, true, true, true, true, true, true, true, true, true, true, true, true, true, false, false, false, false, false, false, false, false, false, false, false, false, false, false, false, false, false, false, false, false, false, false]) (by kernel_rfl) rfl rfl (by kernel_rfl) (by kernel_rfl) (by kernel_rfl) (fun _ _ _ h => h) (Or.inl ⟨by kernel_rfl, fun W hW => by obtain ⟨x5, x4⟩ := HCx.out W hW; obtain ⟨y5, y4⟩ := HCy.out W hW; obtain ⟨z0, z1, z2, z3⟩ := HCs.out W hW; go_simp; try with_reducible rfl⟩) hF ?_
        go_frame
        refine G_take (i := 18) (d := some 150) (by decide) (s' := #[true, true, true, true, true, true, true, true, true, true, true, true, true, true, true, true, true, false, true, false, false, false, false, false, false, false, false, false, false, false, false, false, false, false, false, false, false, false, false]) (by kernel_rfl) rfl rfl (by kernel_rfl) (by kernel_rfl) (by kernel_rfl) (fun _ _ _ h => h) (Or.inl ⟨by kernel_rfl, fun W hW => by obtain ⟨x5, x4⟩ := HCx.out W hW; obtain ⟨y5, y4⟩ := HCy.out W hW; obtain ⟨z0, z1, z2, z3⟩ := HCs.out W hW; go_simp; try with_reducible rfl⟩) hF ?_
        go_frame
        refine G_take (i := 19) (d := some 151) (by decide) (s' := #[true, true, true, true, true, true, true, true, true, true, true, true, true, true, true, true, true, false, true, true, false, false, false, false, false, false, false, false, false, false, false, false, false, false, false, false, false, false, false]) (by kernel_rfl) rfl rfl (by kernel_rfl) (by kernel_rfl) (by kernel_rfl) (fun _ _ _ h => h) (Or.inl ⟨by kernel_rfl, fun W hW => by obtain ⟨x5, x4⟩ := HCx.out W hW; obtain ⟨y5, y4⟩ := HCy.out W hW; obtain ⟨z0, z1, z2, z3⟩ := HCs.out W hW; go_simp; try with_reducible rfl⟩) hF ?_
        go_frame
        refine G_take (i := 20) (d := some 152) (by decide) (s' := #[true, true, true, true, true, true, true, true, true, true, true, true, true, true, true, true, true, false, true, true, true, false, false, false, false, false, false, false, false, false, false, false, false, false, false, false, false, false, false]) (by kernel_rfl) rfl rfl (by kernel_rfl) (by kernel_rfl) (by kernel_rfl) (fun _ _ _ h => h) (Or.inl ⟨by kernel_rfl, fun W hW => by obtain ⟨x5, x4⟩ := HCx.out W hW; obtain ⟨y5, y4⟩ := HCy.out W hW; obtain ⟨z0, z1, z2, z3⟩ := HCs.out W hW; go_simp; try with_reducible rfl⟩) hF ?_
        go_frame
        refine G_take (i := 21) (d := some 153) (by decide) (s' := #[true, true, true, true, true, true, true, true, true, true, true, true, true, true, true, true, true, false, true, true, true, true, false, false, false, false, false, false, false, false, false, false, false, false, false, false, false, false, false]) (by kernel_rfl) rfl rfl (by kernel_rfl) (by kernel_rfl) (by kernel_rfl) (fun _ _ _ h => h) (Or.inl ⟨by kernel_rfl, fun W hW => by obtain ⟨x5, x4⟩ := HCx.out W hW; obtain ⟨y5, y4⟩ := HCy.out W hW; obtain ⟨z0, z1, z2, z3⟩ := HCs.out W hW; go_simp; try with_reducible rfl⟩) hF ?_
        go_frame
        refine G_take (i := 22) (d := some 154) (v := .bool true) (by decide) (s' := #[true, true, true, true, true, true, true, true, true, true, true, true, true, true, true, true, true, false, true, true, true, true, true, false, false, false, false, false, false, false, false, false, false, false, false, false, false, false, false]) (by kernel_rfl) rfl rfl (by kernel_rfl) (by kernel_rfl) (by kernel_rfl) (fun _ _ _ h => h) (Or.inl ⟨by kernel_rfl, fun W hW => by obtain ⟨x5, x4⟩ := HCx.out W hW; obtain ⟨y5, y4⟩ := HCy.out W hW; obtain ⟨z0, z1, z2, z3⟩ := HCs.out W hW; go_simp; try simp [hdl]⟩) hF ?_
        go_frame
        refine F_one (i := 17) (s' := #[true, true, true, true, true, true, true, true, true, true, true, true, true, true, true, true, true, true, true, true, true, true, true, false, false, false, false, false, false, false, false, false, false, false, false, false, false, false, false]) (by kernel_rfl) (by kernel_rfl) ?_
        refine (wpOp_enterL (i := 17) (d := some 149) (f := 18) (args := #[.pointer (some ⟨p1, 0, none⟩)]) rfl rfl (by kernel_rfl) (by go_simp) ((leads_any p1 true _ (HCx.out _ hF).2).mono ?_))
        rintro r vx ⟨rfl, rfl⟩
        refine ⟨_, rfl, fun _ => hF, ?_⟩
        go_frame
        refine G_take (i := 23) (d := some 155) (v := .bool true) (by decide) (s' := #[true, true, true, true, true, true, true, true, true, true, true, true, true, true, true, true, true, true, true, true, true, true, true, true, false, false, false, false, false, false, false, false, false, false, false, false, false, false, false]) (by kernel_rfl) rfl rfl (by kernel_rfl) (by kernel_rfl) (by kernel_rfl) (fun _ _ _ h => h) (Or.inl ⟨by kernel_rfl, fun W hW => by obtain ⟨x5, x4⟩ := HCx.out W hW; obtain ⟨y5, y4⟩ := HCy.out W hW; obtain ⟨z0, z1, z2, z3⟩ := HCs.out W hW; go_simp; try with_reducible rfl⟩) hF ?_
        go_frame
        refine G_take (i := 24) (d := some 156) (by decide) (s' := #[true, true, true, true, true, true, true, true, true, true, true, true, true, true, true, true, true, true, true, true, true, true, true, true, true, false, false, false, false, false, false, false, false, false, false, false, false, false, false]) (by kernel_rfl) rfl rfl (by kernel_rfl) (by kernel_rfl) (by kernel_rfl) (fun _ _ _ h => h) (Or.inl ⟨by kernel_rfl, fun W hW => by obtain ⟨x5, x4⟩ := HCx.out W hW; obtain ⟨y5, y4⟩ := HCy.out W hW; obtain ⟨z0, z1, z2, z3⟩ := HCs.out W hW; go_simp; try with_reducible rfl⟩) hF ?_
        go_frame
        refine G_take (i := 25) (d := some 157) (by decide) (s' := #[true, true, true, true, true, true, true, true, true, true, true, true, true, true, true, true, true, true, true, true, true, true, true, true, true, true, false, false, false, false, false, false, false, false, false, false, false, false, false]) (by kernel_rfl) rfl rfl (by kernel_rfl) (by kernel_rfl) (by kernel_rfl) (fun _ _ _ h => h) (Or.inl ⟨by kernel_rfl, fun W hW => by obtain ⟨x5, x4⟩ := HCx.out W hW; obtain ⟨y5, y4⟩ := HCy.out W hW; obtain ⟨z0, z1, z2, z3⟩ := HCs.out W hW; go_simp; try with_reducible rfl⟩) hF ?_
        go_frame
        refine G_take (i := 26) (d := some 158) (by decide) (s' := #[true, true, true, true, true, true, true, true, true, true, true, true, true, true, true, true, true, true, true, true, true, true, true, true, true, true, true, false, false, false, false, false, false, false, false, false, false, false, false]) (by kernel_rfl) rfl rfl (by kernel_rfl) (by kernel_rfl) (by kernel_rfl) (fun _ _ _ h => h) (Or.inl ⟨by kernel_rfl, fun W hW => by obtain ⟨x5, x4⟩ := HCx.out W hW; obtain ⟨y5, y4⟩ := HCy.out W hW; obtain ⟨z0, z1, z2, z3⟩ := HCs.out W hW; go_simp; try with_reducible rfl⟩) hF ?_
        go_frame
        refine G_take (i := 27) (d := some 159) (by decide) (s' := #[true, true, true, true, true, true, true, true, true, true, true, true, true, true, true, true, true, true, true, true, true, true, true, true, true, true, true, true, false, false, false, false, false, false, false, false, false, false, false]) (by kernel_rfl) rfl rfl (by kernel_rfl) (by kernel_rfl) (by kernel_rfl) (fun _ _ _ h => h) (Or.inl ⟨by kernel_rfl, fun W hW => by obtain ⟨x5, x4⟩ := HCx.out W hW; obtain ⟨y5, y4⟩ := HCy.out W hW; obtain ⟨z0, z1, z2, z3⟩ := HCs.out W hW; go_simp; try with_reducible rfl⟩) hF ?_
        go_frame
        refine G_take (i := 28) (d := some 160) (by decide) (s' := #[true, true, true, true, true, true, true, true, true, true, true, true, true, true, true, true, true, true, true, true, true, true, true, true, true, true, true, true, true, false, false, false, false, false, false, false, false, false, false]) (by kernel_rfl) rfl rfl (by kernel_rfl) (by kernel_rfl) (by kernel_rfl) (fun _ _ _ h => h) (Or.inl ⟨by kernel_rfl, fun W hW => by obtain ⟨x5, x4⟩ := HCx.out W hW; obtain ⟨y5, y4⟩ := HCy.out W hW; obtain ⟨z0, z1, z2, z3⟩ := HCs.out W hW; go_simp; try with_reducible rfl⟩) hF ?_
        go_frame
        refine G_take (i := 29) (d := some 161) (by decide) (s' := #[true, true, true, true, true, true, true, true, true, true, true, true, true, true, true, true, true, true, true, true, true, true, true, true, true, true, true, true, true, true, false, false, false, false, false, false, false, false, false]) (by kernel_rfl) rfl rfl (by kernel_rfl) (by kernel_rfl) (by kernel_rfl) (fun _ _ _ h => h) (Or.inl ⟨by kernel_rfl, fun W hW => by obtain ⟨x5, x4⟩ := HCx.out W hW; obtain ⟨y5, y4⟩ := HCy.out W hW; obtain ⟨z0, z1, z2, z3⟩ := HCs.out W hW; go_simp; try with_reducible rfl⟩) hF ?_
        go_frame
        refine G_take (i := 31) (d := some 163) (by decide) (s' := #[true, true, true, true, true, true, true, true, true, true, true, true, true, true, true, true, true, true, true, true, true, true, true, true, true, true, true, true, true, true, false, true, false, false, false, false, false, false, false]) (by kernel_rfl) rfl rfl (by kernel_rfl) (by kernel_rfl) (by kernel_rfl) (fun _ _ _ h => h) (Or.inl ⟨by kernel_rfl, fun W hW => by obtain ⟨x5, x4⟩ := HCx.out W hW; obtain ⟨y5, y4⟩ := HCy.out W hW; obtain ⟨z0, z1, z2, z3⟩ := HCs.out W hW; go_simp; try with_reducible rfl⟩) hF ?_
        go_frame
        refine G_take (i := 32) (d := some 164) (by decide) (s' := #[true, true, true, true, true, true, true, true, true, true, true, true, true, true, true, true, true, true, true, true, true, true, true, true, true, true, true, true, true, true, false, true, true, false, false, false, false, false, false]) (by kernel_rfl) rfl rfl (by kernel_rfl) (by kernel_rfl) (by kernel_rfl) (fun _ _ _ h => h) (Or.inl ⟨by kernel_rfl, fun W hW => by obtain ⟨x5, x4⟩ := HCx.out W hW; obtain ⟨y5, y4⟩ := HCy.out W hW; obtain ⟨z0, z1, z2, z3⟩ := HCs.out W hW; go_simp; try with_reducible rfl⟩) hF ?_
        go_frame
        refine G_take (i := 33) (d := some 165) (by decide) (s' := #[true, true, true, true, true, true, true, true, true, true, true, true, true, true, true, true, true, true, true, true, true, true, true, true, true, true, true, true, true, true, false, true, true, true, false, false, false, false, false]) (by kernel_rfl) rfl rfl (by kernel_rfl) (by kernel_rfl) (by kernel_rfl) (fun _ _ _ h => h) (Or.inl ⟨by kernel_rfl, fun W hW => by obtain ⟨x5, x4⟩ := HCx.out W hW; obtain ⟨y5, y4⟩ := HCy.out W hW; obtain ⟨z0, z1, z2, z3⟩ := HCs.out W hW; go_simp; try with_reducible rfl⟩) hF ?_
        go_frame
        refine G_take (i := 34) (d := some 166) (by decide) (s' := #[true, true, true, true, true, true, true, true, true, true, true, true, true, true, true, true, true, true, true, true, true, true, true, true, true, true, true, true, true, true, false, true, true, true, true, false, false, false, false]) (by kernel_rfl) rfl rfl (by kernel_rfl) (by kernel_rfl) (by kernel_rfl) (fun _ _ _ h => h) (Or.inl ⟨by kernel_rfl, fun W hW => by obtain ⟨x5, x4⟩ := HCx.out W hW; obtain ⟨y5, y4⟩ := HCy.out W hW; obtain ⟨z0, z1, z2, z3⟩ := HCs.out W hW; go_simp; try with_reducible rfl⟩) hF ?_
        go_frame
        refine F_one (i := 30) (s' := #[true, true, true, true, true, true, true, true, true, true, true, true, true, true, true, true, true, true, true, true, true, true, true, true, true, true, true, true, true, true, true, true, true, true, true, false, false, false, false]) (by kernel_rfl) (by kernel_rfl) ?_
        refine (wpOp_enterL (i := 30) (d := some 162) (f := 18) (args := #[.pointer (some ⟨p2, 0, none⟩)]) rfl rfl (by kernel_rfl) (by go_simp) ((leads_any p2 (!true) _ (HCy.out _ hF).2).mono ?_))
        rintro r vx ⟨rfl, rfl⟩
        refine ⟨_, rfl, fun _ => hF, ?_⟩
        go_frame
        refine F_one (i := 35) (s' := #[true, true, true, true, true, true, true, true, true, true, true, true, true, true, true, true, true, true, true, true, true, true, true, true, true, true, true, true, true, true, true, true, true, true, true, true, false, false, false]) (by kernel_rfl) (by kernel_rfl) ?_
        refine (wpOp_enterL (i := 35) (d := some 167) (f := 18) (args := #[.pointer (some ⟨p1, 0, none⟩)]) rfl rfl (by kernel_rfl) (by go_simp) ((leads_any p1 true _ (HCx.out _ hF).2).mono ?_))
        rintro r vx ⟨rfl, rfl⟩
        refine ⟨_, rfl, fun _ => hF, ?_⟩
        go_frame
        refine G_take (i := 36) (d := some 168) (by decide) (s' := #[true, true, true, true, true, true, true, true, true, true, true, true, true, true, true, true, true, true, true, true, true, true, true, true, true, true, true, true, true, true, true, true, true, true, true, true, true, false, false]) (by kernel_rfl) rfl rfl (by kernel_rfl) (by kernel_rfl) (by kernel_rfl) (fun _ _ _ h => h) (Or.inl ⟨by kernel_rfl, fun W hW => by obtain ⟨x5, x4⟩ := HCx.out W hW; obtain ⟨y5, y4⟩ := HCy.out W hW; obtain ⟨z0, z1, z2, z3⟩ := HCs.out W hW; go_simp; try with_reducible rfl⟩) hF ?_
        go_frame
        refine G_take (i := 37) (d := some 169) (by decide) (s' := #[true, true, true, true, true, true, true, true, true, true, true, true, true, true, true, true, true, true, true, true, true, true, true, true, true, true, true, true, true, true, true, true, true, true, true, true, true, true, false]) (by kernel_rfl) rfl rfl (by kernel_rfl) (by kernel_rfl) (by kernel_rfl) (fun _ _ _ h => h) (Or.inl ⟨by kernel_rfl, fun W hW => by obtain ⟨x5, x4⟩ := HCx.out W hW; obtain ⟨y5, y4⟩ := HCy.out W hW; obtain ⟨z0, z1, z2, z3⟩ := HCs.out W hW; go_simp; try with_reducible rfl⟩) hF ?_
        go_frame
        refine G_take (i := 38) (d := some 6) (by decide) (s' := #[true, true, true, true, true, true, true, true, true, true, true, true, true, true, true, true, true, true, true, true, true, true, true, true, true, true, true, true, true, true, true, true, true, true, true, true, true, true, true]) (by kernel_rfl) rfl rfl (by kernel_rfl) (by kernel_rfl) (by kernel_rfl) (fun _ _ _ h => h) (Or.inl ⟨by kernel_rfl, fun W hW => by obtain ⟨x5, x4⟩ := HCx.out W hW; obtain ⟨y5, y4⟩ := HCy.out W hW; obtain ⟨z0, z1, z2, z3⟩ := HCs.out W hW; go_simp; try with_reducible rfl⟩) hF ?_
        go_frame
        refine F_done (by kernel_rfl) ?_ _
        have HF := Lib.hid hF
        clear hF
        go_wp2
        go_ret
        exact ⟨rfl, below_trans HBe.out HBe.out.size HF.out⟩
      · have hdl : decide (n1 < n0) = false := by simp; omega
        rw [hdl] at HCx HCy
        clear hlt
        refine wp_region_F (F := fun W => Below wo.heap.size wo W) (n := 39) (m := 39) (s := #[false, false, false, false, false, false, false, false, false, false, false, false, false, false, false, false, false, false, false, false, false, false, false, false, false, false, false, false, false, false, false, false, false, false, false, false, false, false, false]) (by kernel_rfl) (by kernel_rfl) (by kernel_rfl) ?_
        intro wd hwd
        have hF : Below wo.heap.size wo wd := by rw [hwd.out]; exact (Below.refl _ _).drew
        clear hwd
        refine G_take (i := 0) (d := some 132) (by decide) (s' := #[true, false, false, false, false, false, false, false, false, false, false, false, false, false, false, false, false, false, false, false, false, false, false, false, false, false, false, false, false, false, false, false, false, false, false, false, false, false, false]) (by kernel_rfl) rfl rfl (by kernel_rfl) (by kernel_rfl) (by kernel_rfl) (fun _ _ _ h => h) (Or.inl ⟨by kernel_rfl, fun W hW => by obtain ⟨x5, x4⟩ := HCx.out W hW; obtain ⟨y5, y4⟩ := HCy.out W hW; obtain ⟨z0, z1, z2, z3⟩ := HCs.out W hW; go_simp; try with_reducible rfl⟩) hF ?_
        go_frame
        refine G_take (i := 1) (d := some 133) (by decide) (s' := #[true, true, false, false, false, false, false, false, false, false, false, false, false, false, false, false, false, false, false, false, false, false, false, false, false, false, false, false, false, false, false, false, false, false, false, false, false, false, false]) (by kernel_rfl) rfl rfl (by kernel_rfl) (by kernel_rfl) (by kernel_rfl) (fun _ _ _ h => h) (Or.inl ⟨by kernel_rfl, fun W hW => by obtain ⟨x5, x4⟩ := HCx.out W hW; obtain ⟨y5, y4⟩ := HCy.out W hW; obtain ⟨z0, z1, z2, z3⟩ := HCs.out W hW; go_simp; try with_reducible rfl⟩) hF ?_
        go_frame
        refine G_take (i := 2) (d := some 134) (by decide) (s' := #[true, true, true, false, false, false, false, false, false, false, false, false, false, false, false, false, false, false, false, false, false, false, false, false, false, false, false, false, false, false, false, false, false, false, false, false, false, false, false]) (by kernel_rfl) rfl rfl (by kernel_rfl) (by kernel_rfl) (by kernel_rfl) (fun _ _ _ h => h) (Or.inl ⟨by kernel_rfl, fun W hW => by obtain ⟨x5, x4⟩ := HCx.out W hW; obtain ⟨y5, y4⟩ := HCy.out W hW; obtain ⟨z0, z1, z2, z3⟩ := HCs.out W hW; go_simp; try with_reducible rfl⟩) hF ?_
        go_frame
        refine G_take (i := 3) (d := some 135) (by decide) (s' := #[true, true, true, true, false, false, false, false, false, false, false, false, false, false, false, false, false, false, false, false, false, false, false, false, false, false, false, false, false, false, false, false, false, false, false, false, false, false, false]) (by kernel_rfl) rfl rfl (by kernel_rfl) (by kernel_rfl) (by kernel_rfl) (fun _ _ _ h => h) (Or.inl ⟨by kernel_rfl, fun W hW => by obtain ⟨x5, x4⟩ := HCx.out W hW; obtain ⟨y5, y4⟩ := HCy.out W hW; obtain ⟨z0, z1, z2, z3⟩ := HCs.out W hW; go_simp; try with_reducible rfl⟩) hF ?_
        go_frame
        refine F_one (i := 4) (s' := #[true, true, true, true, true, false, false, false, false, false, false, false, false, false, false, false, false, false, false, false, false, false, false, false, false, false, false, false, false, false, false, false, false, false, false, false, false, false, false]) (by kernel_rfl) (by kernel_rfl) ?_
        refine (wpOp_enterL (i := 4) (d := some 136) (f := 17) (args := #[.pointer (some ⟨p1, 0, none⟩)]) rfl rfl (by kernel_rfl) (by go_simp) ((done_any p1 true _ (HCx.out _ hF).1).mono ?_))
        rintro r vx ⟨rfl, rfl⟩
        refine ⟨_, rfl, fun _ => hF, ?_⟩
        go_frame
        refine G_take (i := 5) (d := some 137) (by decide) (s' := #[true, true, true, true, true, true, false, false, false, false, false, false, false, false, false, false, false, false, false, false, false, false, false, false, false, false, false, false, false, false, false, false, false, false, false, false, false, false, false]) (by kernel_rfl) rfl rfl (by kernel_rfl) (by kernel_rfl) (by kernel_rfl) (fun _ _ _ h => h) (Or.inl ⟨by kernel_rfl, fun W hW => by obtain ⟨x5, x4⟩ := HCx.out W hW; obtain ⟨y5, y4⟩ := HCy.out W hW; obtain ⟨z0, z1, z2, z3⟩ := HCs.out W hW; go_simp; try with_reducible rfl⟩) hF ?_
        go_frame
        refine G_take (i := 6) (d := some 138) (by decide) (s' := #[true, true, true, true, true, true, true, false, false, false, false, false, false, false, false, false, false, false, false, false, false, false, false, false, false, false, false, false, false, false, false, false, false, false, false, false, false, false, false]) (by kernel_rfl) rfl rfl (by kernel_rfl) (by kernel_rfl) (by kernel_rfl) (fun _ _ _ h => h) (Or.inl ⟨by kernel_rfl, fun W hW => by obtain ⟨x5, x4⟩ := HCx.out W hW; obtain ⟨y5, y4⟩ := HCy.out W hW; obtain ⟨z0, z1, z2, z3⟩ := HCs.out W hW; go_simp; try with_reducible rfl⟩) hF ?_
        go_frame
        refine G_take (i := 7) (d := some 139) (by decide) (s' := #[true, true, true, true, true, true, true, true, false, false, false, false, false, false, false, false, false, false, false, false, false, false, false, false, false, false, false, false, false, false, false, false, false, false, false, false, false, false, false]) (by kernel_rfl) rfl rfl (by kernel_rfl) (by kernel_rfl) (by kernel_rfl) (fun _ _ _ h => h) (Or.inl ⟨by kernel_rfl, fun W hW => by obtain ⟨x5, x4⟩ := HCx.out W hW; obtain ⟨y5, y4⟩ := HCy.out W hW; obtain ⟨z0, z1, z2, z3⟩ := HCs.out W hW; go_simp; try with_reducible rfl⟩) hF ?_
        go_frame
        refine G_take (i := 8) (d := some 140) (by decide) (s' := #[true, true, true, true, true, true, true, true, true, false, false, false, false, false, false, false, false, false, false, false, false, false, false, false, false, false, false, false, false, false, false, false, false, false, false, false, false, false, false]) (by kernel_rfl) rfl rfl (by kernel_rfl) (by kernel_rfl) (by kernel_rfl) (fun _ _ _ h => h) (Or.inl ⟨by kernel_rfl, fun W hW => by obtain ⟨x5, x4⟩ := HCx.out W hW; obtain ⟨y5, y4⟩ := HCy.out W hW; obtain ⟨z0, z1, z2, z3⟩ := HCs.out W hW; go_simp; try with_reducible rfl⟩) hF ?_
        go_frame
        refine G_take (i := 9) (d := some 141) (by decide) (s' := #[true, true, true, true, true, true, true, true, true, true, false, false, false, false, false, false, false, false, false, false, false, false, false, false, false, false, false, false, false, false, false, false, false, false, false, false, false, false, false]) (by kernel_rfl) rfl rfl (by kernel_rfl) (by kernel_rfl) (by kernel_rfl) (fun _ _ _ h => h) (Or.inl ⟨by kernel_rfl, fun W hW => by obtain ⟨x5, x4⟩ := HCx.out W hW; obtain ⟨y5, y4⟩ := HCy.out W hW; obtain ⟨z0, z1, z2, z3⟩ := HCs.out W hW; go_simp; try with_reducible rfl⟩) hF ?_
        go_frame
        refine F_one (i := 10) (s' := #[true, true, true, true, true, true, true, true, true, true, true, false, false, false, false, false, false, false, false, false, false, false, false, false, false, false, false, false, false, false, false, false, false, false, false, false, false, false, false]) (by kernel_rfl) (by kernel_rfl) ?_
        refine (wpOp_enterL (i := 10) (d := some 142) (f := 17) (args := #[.pointer (some ⟨p2, 0, none⟩)]) rfl rfl (by kernel_rfl) (by go_simp) ((done_any p2 true _ (HCy.out _ hF).1).mono ?_))
        rintro r vx ⟨rfl, rfl⟩
        refine ⟨_, rfl, fun _ => hF, ?_⟩
        go_frame
        refine G_take (i := 11) (d := some 143) (by decide) (s' := #[true, true, true, true, true, true, true, true, true, true, true, true, false, false, false, false, false, false, false, false, false, false, false, false, false, false, false, false, false, false, false, false, false, false, false, false, false, false, false]) (by kernel_rfl) rfl rfl (by kernel_rfl) (by kernel_rfl) (by kernel_rfl) (fun _ _ _ h => h) (Or.inl ⟨by kernel_rfl, fun W hW => by obtain ⟨x5, x4⟩ := HCx.out W hW; obtain ⟨y5, y4⟩ := HCy.out W hW; obtain ⟨z0, z1, z2, z3⟩ := HCs.out W hW; go_simp; try with_reducible rfl⟩) hF ?_
        go_frame
        refine G_take (i := 12) (d := some 144) (by decide) (s' := #[true, true, true, true, true, true, true, true, true, true, true, true, true, false, false, false, false, false, false, false, false, false, false, false, false, false, false, false, false, false, false, false, false, false, false, false, false, false, false]) (by kernel_rfl) rfl rfl (by kernel_rfl) (by kernel_rfl) (by kernel_rfl) (fun _ _ _ h => h) (Or.inl ⟨by kernel_rfl, fun W hW => by obtain ⟨x5, x4⟩ := HCx.out W hW; obtain ⟨y5, y4⟩ := HCy.out W hW; obtain ⟨z0, z1, z2, z3⟩ := HCs.out W hW; go_simp; try with_reducible rfl⟩) hF ?_
        go_frame
        refine G_take (i := 13) (d := some 145) (by decide) (s' := #[true, true, true, true, true, true, true, true, true, true, true, true, true, true, false, false, false, false, false, false, false, false, false, false, false, false, false, false, false, false, false, false, false, false, false, false, false, false, false]) (by kernel_rfl) rfl rfl (by kernel_rfl) (by kernel_rfl) (by kernel_rfl) (fun _ _ _ h => h) (Or.inl ⟨by kernel_rfl, fun W hW => by obtain ⟨x5, x4⟩ := HCx.out W hW; obtain ⟨y5, y4⟩ := HCy.out W hW; obtain ⟨z0, z1, z2, z3⟩ := HCs.out W hW; go_simp; try with_reducible rfl⟩) hF ?_
        go_frame
        refine G_take (i := 14) (d := some 146) (by decide) (s' := #[true, true, true, true, true, true, true, true, true, true, true, true, true, true, true, false, false, false, false, false, false, false, false, false, false, false, false, false, false, false, false, false, false, false, false, false, false, false, false]) (by kernel_rfl) rfl rfl (by kernel_rfl) (by kernel_rfl) (by kernel_rfl) (fun _ _ _ h => h) (Or.inl ⟨by kernel_rfl, fun W hW => by obtain ⟨x5, x4⟩ := HCx.out W hW; obtain ⟨y5, y4⟩ := HCy.out W hW; obtain ⟨z0, z1, z2, z3⟩ := HCs.out W hW; go_simp; try with_reducible rfl⟩) hF ?_
        go_frame
        refine G_take (i := 15) (d := some 147) (by decide) (s' := #[true, true, true, true, true, true, true, true, true, true, true, true, true, true, true, true, false, false, false, false, false, false, false, false, false, false, false, false, false, false, false, false, false, false, false, false, false, false, false]) (by kernel_rfl) rfl rfl (by kernel_rfl) (by kernel_rfl) (by kernel_rfl) (fun _ _ _ h => h) (Or.inl ⟨by kernel_rfl, fun W hW => by obtain ⟨x5, x4⟩ := HCx.out W hW; obtain ⟨y5, y4⟩ := HCy.out W hW; obtain ⟨z0, z1, z2, z3⟩ := HCs.out W hW; go_simp; try with_reducible rfl⟩) hF ?_
        go_frame
        refine G_take (i := 16) (d := some 148) (by decide) (s' := #[true, true, true, true, true, true, true, true, true, true, true, true, true, true, true, true, true, false, false, false, false, false, false, false, false, false, false, false, false, false, false, false, false, false, false, false, false, false, false]) (by kernel_rfl) rfl rfl (by kernel_rfl) (by kernel_rfl) (by kernel_rfl) (fun _ _ _ h => h) (Or.inl ⟨by kernel_rfl, fun W hW => by obtain ⟨x5, x4⟩ := HCx.out W hW; obtain ⟨y5, y4⟩ := HCy.out W hW; obtain ⟨z0, z1, z2, z3⟩ := HCs.out W hW; go_simp; try with_reducible rfl⟩) hF ?_
        go_frame
        refine G_take (i := 18) (d := some 150) (by decide) (s' := #[true, true, true, true, true, true, true, true, true, true, true, true, true, true, true, true, true, false, true, false, false, false, false, false, false, false, false, false, false, false, false, false, false, false, false, false, false, false, false]) (by kernel_rfl) rfl rfl (by kernel_rfl) (by kernel_rfl) (by kernel_rfl) (fun _ _ _ h => h) (Or.inl ⟨by kernel_rfl, fun W hW => by obtain ⟨x5, x4⟩ := HCx.out W hW; obtain ⟨y5, y4⟩ := HCy.out W hW; obtain ⟨z0, z1, z2, z3⟩ := HCs.out W hW; go_simp; try with_reducible rfl⟩) hF ?_
        go_frame
        refine G_take (i := 19) (d := some 151) (by decide) (s' := #[true, true, true, true, true, true, true, true, true, true, true, true, true, true, true, true, true, false, true, true, false, false, false, false, false, false, false, false, false, false, false, false, false, false, false, false, false, false, false]) (by kernel_rfl) rfl rfl (by kernel_rfl) (by kernel_rfl) (by kernel_rfl) (fun _ _ _ h => h) (Or.inl ⟨by kernel_rfl, fun W hW => by obtain ⟨x5, x4⟩ := HCx.out W hW; obtain ⟨y5, y4⟩ := HCy.out W hW; obtain ⟨z0, z1, z2, z3⟩ := HCs.out W hW; go_simp; try with_reducible rfl⟩) hF ?_
        go_frame
        refine G_take (i := 20) (d := some 152) (by decide) (s' := #[true, true, true, true, true, true, true, true, true, true, true, true, true, true, true, true, true, false, true, true, true, false, false, false, false, false, false, false, false, false, false, false, false, false, false, false, false, false, false]) (by kernel_rfl) rfl rfl (by kernel_rfl) (by kernel_rfl) (by kernel_rfl) (fun _ _ _ h => h) (Or.inl ⟨by kernel_rfl, fun W hW => by obtain ⟨x5, x4⟩ := HCx.out W hW; obtain ⟨y5, y4⟩ := HCy.out W hW; obtain ⟨z0, z1, z2, z3⟩ := HCs.out W hW; go_simp; try with_reducible rfl⟩) hF ?_
        go_frame
        refine G_take (i := 21) (d := some 153) (by decide) (s' := #[true, true, true, true, true, true, true, true, true, true, true, true, true, true, true, true, true, false, true, true, true, true, false, false, false, false, false, false, false, false, false, false, false, false, false, false, false, false, false]) (by kernel_rfl) rfl rfl (by kernel_rfl) (by kernel_rfl) (by kernel_rfl) (fun _ _ _ h => h) (Or.inl ⟨by kernel_rfl, fun W hW => by obtain ⟨x5, x4⟩ := HCx.out W hW; obtain ⟨y5, y4⟩ := HCy.out W hW; obtain ⟨z0, z1, z2, z3⟩ := HCs.out W hW; go_simp; try with_reducible rfl⟩) hF ?_
        go_frame
        refine G_take (i := 22) (d := some 154) (v := .bool false) (by decide) (s' := #[true, true, true, true, true, true, true, true, true, true, true, true, true, true, true, true, true, false, true, true, true, true, true, false, false, false, false, false, false, false, false, false, false, false, false, false, false, false, false]) (by kernel_rfl) rfl rfl (by kernel_rfl) (by kernel_rfl) (by kernel_rfl) (fun _ _ _ h => h) (Or.inl ⟨by kernel_rfl, fun W hW => by obtain ⟨x5, x4⟩ := HCx.out W hW; obtain ⟨y5, y4⟩ := HCy.out W hW; obtain ⟨z0, z1, z2, z3⟩ := HCs.out W hW; go_simp; try simp [hdl]⟩) hF ?_
        go_frame
        refine F_one (i := 17) (s' := #[true, true, true, true, true, true, true, true, true, true, true, true, true, true, true, true, true, true, true, true, true, true, true, false, false, false, false, false, false, false, false, false, false, false, false, false, false, false, false]) (by kernel_rfl) (by kernel_rfl) ?_
        refine (wpOp_enterL (i := 17) (d := some 149) (f := 18) (args := #[.pointer (some ⟨p1, 0, none⟩)]) rfl rfl (by kernel_rfl) (by go_simp) ((leads_any p1 false _ (HCx.out _ hF).2).mono ?_))
        rintro r vx ⟨rfl, rfl⟩
        refine ⟨_, rfl, fun _ => hF, ?_⟩
        go_frame
        refine G_take (i := 23) (d := some 155) (v := .bool true) (by decide) (s' := #[true, true, true, true, true, true, true, true, true, true, true, true, true, true, true, true, true, true, true, true, true, true, true, true, false, false, false, false, false, false, false, false, false, false, false, false, false, false, false]) (by kernel_rfl) rfl rfl (by kernel_rfl) (by kernel_rfl) (by kernel_rfl) (fun _ _ _ h => h) (Or.inl ⟨by kernel_rfl, fun W hW => by obtain ⟨x5, x4⟩ := HCx.out W hW; obtain ⟨y5, y4⟩ := HCy.out W hW; obtain ⟨z0, z1, z2, z3⟩ := HCs.out W hW; go_simp; try with_reducible rfl⟩) hF ?_
        go_frame
        refine G_take (i := 24) (d := some 156) (by decide) (s' := #[true, true, true, true, true, true, true, true, true, true, true, true, true, true, true, true, true, true, true, true, true, true, true, true, true, false, false, false, false, false, false, false, false, false, false, false, false, false, false]) (by kernel_rfl) rfl rfl (by kernel_rfl) (by kernel_rfl) (by kernel_rfl) (fun _ _ _ h => h) (Or.inl ⟨by kernel_rfl, fun W hW => by obtain ⟨x5, x4⟩ := HCx.out W hW; obtain ⟨y5, y4⟩ := HCy.out W hW; obtain ⟨z0, z1, z2, z3⟩ := HCs.out W hW; go_simp; try with_reducible rfl⟩) hF ?_
        go_frame
        refine G_take (i := 25) (d := some 157) (by decide) (s' := #[true, true, true, true, true, true, true, true, true, true, true, true, true, true, true, true, true, true, true, true, true, true, true, true, true, true, false, false, false, false, false, false, false, false, false, false, false, false, false]) (by kernel_rfl) rfl rfl (by kernel_rfl) (by kernel_rfl) (by kernel_rfl) (fun _ _ _ h => h) (Or.inl ⟨by kernel_rfl, fun W hW => by obtain ⟨x5, x4⟩ := HCx.out W hW; obtain ⟨y5, y4⟩ := HCy.out W hW; obtain ⟨z0, z1, z2, z3⟩ := HCs.out W hW; go_simp; try with_reducible rfl⟩) hF ?_
        go_frame
        refine G_take (i := 26) (d := some 158) (by decide) (s' := #[true, true, true, true, true, true, true, true, true, true, true, true, true, true, true, true, true, true, true, true, true, true, true, true, true, true, true, false, false, false, false, false, false, false, false, false, false, false, false]) (by kernel_rfl) rfl rfl (by kernel_rfl) (by kernel_rfl) (by kernel_rfl) (fun _ _ _ h => h) (Or.inl ⟨by kernel_rfl, fun W hW => by obtain ⟨x5, x4⟩ := HCx.out W hW; obtain ⟨y5, y4⟩ := HCy.out W hW; obtain ⟨z0, z1, z2, z3⟩ := HCs.out W hW; go_simp; try with_reducible rfl⟩) hF ?_
        go_frame
        refine G_take (i := 27) (d := some 159) (by decide) (s' := #[true, true, true, true, true, true, true, true, true, true, true, true, true, true, true, true, true, true, true, true, true, true, true, true, true, true, true, true, false, false, false, false, false, false, false, false, false, false, false]) (by kernel_rfl) rfl rfl (by kernel_rfl) (by kernel_rfl) (by kernel_rfl) (fun _ _ _ h => h) (Or.inl ⟨by kernel_rfl, fun W hW => by obtain ⟨x5, x4⟩ := HCx.out W hW; obtain ⟨y5, y4⟩ := HCy.out W hW; obtain ⟨z0, z1, z2, z3⟩ := HCs.out W hW; go_simp; try with_reducible rfl⟩) hF ?_
        go_frame
        refine G_take (i := 28) (d := some 160) (by decide) (s' := #[true, true, true, true, true, true, true, true, true, true, true, true, true, true, true, true, true, true, true, true, true, true, true, true, true, true, true, true, true, false, false, false, false, false, false, false, false, false, false]) (by kernel_rfl) rfl rfl (by kernel_rfl) (by kernel_rfl) (by kernel_rfl) (fun _ _ _ h => h) (Or.inl ⟨by kernel_rfl, fun W hW => by obtain ⟨x5, x4⟩ := HCx.out W hW; obtain ⟨y5, y4⟩ := HCy.out W hW; obtain ⟨z0, z1, z2, z3⟩ := HCs.out W hW; go_simp; try with_reducible rfl⟩) hF ?_
        go_frame
        refine G_take (i := 29) (d := some 161) (by decide) (s' := #[true, true, true, true, true, true, true, true, true, true, true, true, true, true, true, true, true, true, true, true, true, true, true, true, true, true, true, true, true, true, false, false, false, false, false, false, false, false, false]) (by kernel_rfl) rfl rfl (by kernel_rfl) (by kernel_rfl) (by kernel_rfl) (fun _ _ _ h => h) (Or.inl ⟨by kernel_rfl, fun W hW => by obtain ⟨x5, x4⟩ := HCx.out W hW; obtain ⟨y5, y4⟩ := HCy.out W hW; obtain ⟨z0, z1, z2, z3⟩ := HCs.out W hW; go_simp; try with_reducible rfl⟩) hF ?_
        go_frame
        refine G_take (i := 31) (d := some 163) (by decide) (s' := #[true, true, true, true, true, true, true, true, true, true, true, true, true, true, true, true, true, true, true, true, true, true, true, true, true, true, true, true, true, true, false, true, false, false, false, false, false, false, false]) (by kernel_rfl) rfl rfl (by kernel_rfl) (by kernel_rfl) (by kernel_rfl) (fun _ _ _ h => h) (Or.inl ⟨by kernel_rfl, fun W hW => by obtain ⟨x5, x4⟩ := HCx.out W hW; obtain ⟨y5, y4⟩ := HCy.out W hW; obtain ⟨z0, z1, z2, z3⟩ := HCs.out W hW; go_simp; try with_reducible rfl⟩) hF ?_
        go_frame
        refine G_take (i := 32) (d := some 164) (by decide) (s' := #[true, true, true, true, true, true, true, true, true, true, true, true, true, true, true, true, true, true, true, true, true, true, true, true, true, true, true, true, true, true, false, true, true, false, false, false, false, false, false]) (by kernel_rfl) rfl rfl (by kernel_rfl) (by kernel_rfl) (by kernel_rfl) (fun _ _ _ h => h) (Or.inl ⟨by kernel_rfl, fun W hW => by obtain ⟨x5, x4⟩ := HCx.out W hW; obtain ⟨y5, y4⟩ := HCy.out W hW; obtain ⟨z0, z1, z2, z3⟩ := HCs.out W hW; go_simp; try with_reducible rfl⟩) hF ?_
        go_frame
        refine G_take (i := 33) (d := some 165) (by decide) (s' := #[true, true, true, true, true, true, true, true, true, true, true, true, true, true, true, true, true, true, true, true, true, true, true, true, true, true, true, true, true, true, false, true, true, true, false, false, false, false, false]) (by kernel_rfl) rfl rfl (by kernel_rfl) (by kernel_rfl) (by kernel_rfl) (fun _ _ _ h => h) (Or.inl ⟨by kernel_rfl, fun W hW => by obtain ⟨x5, x4⟩ := HCx.out W hW; obtain ⟨y5, y4⟩ := HCy.out W hW; obtain ⟨z0, z1, z2, z3⟩ := HCs.out W hW; go_simp; try with_reducible rfl⟩) hF ?_
        go_frame
        refine G_take (i := 34) (d := some 166) (by decide) (s' := #[true, true, true, true, true, true, true, true, true, true, true, true, true, true, true, true, true, true, true, true, true, true, true, true, true, true, true, true, true, true, false, true, true, true, true, false, false, false, false]) (by kernel_rfl) rfl rfl (by kernel_rfl) (by kernel_rfl) (by kernel_rfl) (fun _ _ _ h => h) (Or.inl ⟨by kernel_rfl, fun W hW => by obtain ⟨x5, x4⟩ := HCx.out W hW; obtain ⟨y5, y4⟩ := HCy.out W hW; obtain ⟨z0, z1, z2, z3⟩ := HCs.out W hW; go_simp; try with_reducible rfl⟩) hF ?_
        go_frame
        refine F_one (i := 30) (s' := #[true, true, true, true, true, true, true, true, true, true, true, true, true, true, true, true, true, true, true, true, true, true, true, true, true, true, true, true, true, true, true, true, true, true, true, false, false, false, false]) (by kernel_rfl) (by kernel_rfl) ?_
        refine (wpOp_enterL (i := 30) (d := some 162) (f := 18) (args := #[.pointer (some ⟨p2, 0, none⟩)]) rfl rfl (by kernel_rfl) (by go_simp) ((leads_any p2 (!false) _ (HCy.out _ hF).2).mono ?_))
        rintro r vx ⟨rfl, rfl⟩
        refine ⟨_, rfl, fun _ => hF, ?_⟩
        go_frame
        refine F_one (i := 35) (s' := #[true, true, true, true, true, true, true, true, true, true, true, true, true, true, true, true, true, true, true, true, true, true, true, true, true, true, true, true, true, true, true, true, true, true, true, true, false, false, false]) (by kernel_rfl) (by kernel_rfl) ?_
        refine (wpOp_enterL (i := 35) (d := some 167) (f := 18) (args := #[.pointer (some ⟨p1, 0, none⟩)]) rfl rfl (by kernel_rfl) (by go_simp) ((leads_any p1 false _ (HCx.out _ hF).2).mono ?_))
        rintro r vx ⟨rfl, rfl⟩
        refine ⟨_, rfl, fun _ => hF, ?_⟩
        go_frame
        refine G_take (i := 36) (d := some 168) (by decide) (s' := #[true, true, true, true, true, true, true, true, true, true, true, true, true, true, true, true, true, true, true, true, true, true, true, true, true, true, true, true, true, true, true, true, true, true, true, true, true, false, false]) (by kernel_rfl) rfl rfl (by kernel_rfl) (by kernel_rfl) (by kernel_rfl) (fun _ _ _ h => h) (Or.inl ⟨by kernel_rfl, fun W hW => by obtain ⟨x5, x4⟩ := HCx.out W hW; obtain ⟨y5, y4⟩ := HCy.out W hW; obtain ⟨z0, z1, z2, z3⟩ := HCs.out W hW; go_simp; try with_reducible rfl⟩) hF ?_
        go_frame
        refine G_take (i := 37) (d := some 169) (by decide) (s' := #[true, true, true, true, true, true, true, true, true, true, true, true, true, true, true, true, true, true, true, true, true, true, true, true, true, true, true, true, true, true, true, true, true, true, true, true, true, true, false]) (by kernel_rfl) rfl rfl (by kernel_rfl) (by kernel_rfl) (by kernel_rfl) (fun _ _ _ h => h) (Or.inl ⟨by kernel_rfl, fun W hW => by obtain ⟨x5, x4⟩ := HCx.out W hW; obtain ⟨y5, y4⟩ := HCy.out W hW; obtain ⟨z0, z1, z2, z3⟩ := HCs.out W hW; go_simp; try with_reducible rfl⟩) hF ?_
        go_frame
        refine G_take (i := 38) (d := some 6) (by decide) (s' := #[true, true, true, true, true, true, true, true, true, true, true, true, true, true, true, true, true, true, true, true, true, true, true, true, true, true, true, true, true, true, true, true, true, true, true, true, true, true, true]) (by kernel_rfl) rfl rfl (by kernel_rfl) (by kernel_rfl) (by kernel_rfl) (fun _ _ _ h => h) (Or.inl ⟨by kernel_rfl, fun W hW => by obtain ⟨x5, x4⟩ := HCx.out W hW; obtain ⟨y5, y4⟩ := HCy.out W hW; obtain ⟨z0, z1, z2, z3⟩ := HCs.out W hW; go_simp; try with_reducible rfl⟩) hF ?_
        go_frame
        refine F_done (by kernel_rfl) ?_ _
        have HF := Lib.hid hF
        clear hF
        go_wp2
        go_ret
        exact ⟨rfl, below_trans HBe.out HBe.out.size HF.out⟩

end Go.Proofs.Ytfpjkeddcagfcaa
