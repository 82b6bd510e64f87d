/-
  The law ExchEnds: its walk.
-/
import Derived.Test.YtfpjkeddcagfcaaBag
import Derived.Test.YtfpjkeddcagfcaaBal
import Derived.Test.YtfpjkeddcagfcaaBan
namespace Go.Proofs.Ytfpjkeddcagfcaa
open Go.RowKit Go.Sort

theorem row_dd14 {w : World} {B : Nat} {A : Option Addr} {l : List DdC} (h : RowsAt 5 DdC.cells w B A l) (k : Nat) (hk : k < l.length) : ∃ b o, A = some ⟨b, o, none⟩ ∧ w.cell? ⟨b, o + k * 5, none⟩ = some (.bool l[k].b1) ∧ w.cell? ⟨b, o + k * 5 + 1, none⟩ = some (.bool l[k].b2) ∧ w.cell? ⟨b, o + k * 5 + 2, none⟩ = some (.bool l[k].b3) ∧ w.cell? ⟨b, o + k * 5 + 3, none⟩ = some (.int .i64 l[k].z) ∧ w.cell? ⟨b, o + k * 5 + 4, none⟩ = some (.slice l[k].a l[k].m l[k].c) := by
  obtain ⟨b, o, e, hb, hc⟩ := h (by omega)
  exact ⟨b, o, e, hc k hk 0 _ (by omega) rfl, hc k hk 1 _ (by omega) rfl, hc k hk 2 _ (by omega) rfl, hc k hk 3 _ (by omega) rfl, hc k hk 4 _ (by omega) rfl⟩
theorem infoDd14 : (Try.prog.info? 33).map (fun i => (i.zero, i.size, i.bytes)) = some (some (.agg #[.bool false, .bool false, .bool false, .int .i64 0, .slice none 0 0]), 5, 40) := by kernel_rfl
theorem onesDd14 (x : DdC) : ∀ u ∈ DdC.cells x, u.oneCell' = true := by
  intro u hu
  simp [DdC.cells] at hu
  rcases hu with rfl | rfl | rfl | rfl | rfl <;> rfl
theorem own_one14 (w : World) (x : DdC) : OwnR 33 5 DdC.cells (w.alloc (.cells (DdC.cells x).toArray 33)) w.heap.size (.slice (some ⟨w.heap.size, 0, none⟩) 1 1) [x] := by
  refine ⟨by simp [DdC.cells], .inr ⟨w.heap.size, 1, (DdC.cells x).toArray, rfl, Nat.le_refl _, Blk.new w _ _, by simp, by unfold maxLen; omega, by simp [DdC.cells], by simp [DdC.cells]⟩⟩
set_option maxHeartbeats 16000000 in
set_option maxRecDepth 100000 in
theorem exchEnds_any (n0 n1 n2 n3 : Int) (A : Option Addr) (cap : Nat) (l : List Lsa) (A' : Option Addr) (cap' : Nat) (l' : List Lsa) (At : Option Addr) (ct : Nat) (ts : List DdC) (w : World) (hl : LsasAt w w.heap.size A l) (hm : l.length ≤ maxLen) (hl' : LsasAt w w.heap.size A' l') (hm' : l'.length ≤ maxLen) (ht : RowsAt 5 DdC.cells w w.heap.size At ts) (htm : ts.length ≤ maxLen) :
    Calls Try.prog 5 #[.agg #[.int .i64 n0, .int .i64 n1, .int .i64 n2, .int .i64 n3], .agg #[.slice A l.length cap, .slice A' l'.length cap'], .slice At ts.length ct] w fun r w' => r = .returned (.bool true) ∧ Below w.heap.size w w' := by
  obtain ⟨nl, hnl⟩ : ∃ nl, l.length = nl := ⟨_, rfl⟩
  obtain ⟨nl', hnl'⟩ : ∃ nl, l'.length = nl := ⟨_, rfl⟩
  obtain ⟨nt, hnt⟩ : ∃ nt, ts.length = nt := ⟨_, rfl⟩
  obtain ⟨t1, ht1⟩ : ∃ t, manyB 60 l = t := ⟨_, rfl⟩
  obtain ⟨t2, ht2⟩ : ∃ t, manyB 60 l' = t := ⟨_, rfl⟩
  have HMany := Lib.hid (fun W (hW : Below w.heap.size w W) => many14 A cap l W w.heap.size (hl.rows.below hW) hW.size hm l.length rfl ht1)
  have HMany' := Lib.hid (fun W (hW : Below w.heap.size w W) => many14 A' cap' l' W w.heap.size (hl'.rows.below hW) hW.size hm' l'.length rfl ht2)
  have HRows := Lib.hid hl.rows
  have HRows' := Lib.hid hl'.rows
  have HT := Lib.hid ht
  have Ht1 := Lib.hid ht1
  have Ht2 := Lib.hid ht2
  have Hnl := Lib.hid hnl
  have Hnl' := Lib.hid hnl'
  have Hnt := Lib.hid hnt
  unfold maxLen at htm
  rw [hnl] at HMany ⊢
  rw [hnl'] at HMany' ⊢
  rw [hnt] at htm ⊢
  have hntm : (nt : Int) ≤ 9223372036854775807 := by omega
  obtain ⟨w2, hw2⟩ : ∃ w2, (w.alloc (.cells #[.int .i64 n0, .int .i64 n1, .int .i64 n2, .int .i64 n3] 38)).alloc (.cells #[.slice A nl cap, .slice A' nl' cap'] 39) = w2 := ⟨_, rfl⟩
  obtain ⟨g1, hg1⟩ : ∃ g, w.heap.size = g := ⟨_, rfl⟩
  have ha : Blk w2 w.heap.size 38 #[.int .i64 n0, .int .i64 n1, .int .i64 n2, .int .i64 n3] := by rw [← hw2]; exact (Blk.new _ _ _).alloc _
  have hbk : Blk w2 (w.heap.size + 1) 39 #[.slice A nl cap, .slice A' nl' cap'] := by rw [← hw2]; exact Blk.size (by simp)
  have hb2 : Below w.heap.size w w2 := by rw [← hw2]; exact (below_new _ _).alloc (by simp) _
  obtain ⟨g2, hg2⟩ : ∃ g, g1 + 1 = g := ⟨_, rfl⟩
  rw [hg1] at ha hbk
  rw [hg2] at hbk
  have HA := Lib.hid ha
  have HB := Lib.hid hbk
  have Hb2 := Lib.hid hb2
  obtain ⟨a0, a1, a2, a3⟩ := blk4f14 ha
  obtain ⟨b0, b1⟩ := blk2f14 hbk
  clear hl hm hl' hm' ht htm ht1 ht2 hnl hnl' hnt ha hbk hb2
  go_enter Try.func5, Try.ntmps5
  go_wp2_with fail
  with_reducible refine Calls.mono (wakes14 _) ?_
  rintro r w3 ⟨rfl, hb3⟩
  have HA3 := Lib.hid (HA.out.below hb3 HA.out.lt)
  have HB3 := Lib.hid (HB.out.below hb3 HB.out.lt)
  have Hb3 := Lib.hid (below_trans Hb2.out Hb2.out.size hb3)
  clear a0 a1 a2 a3 b0 b1 hb3 hw2 hg1 hg2 HA HB
  obtain ⟨b0, b1⟩ := blk2f14 HB3.out
  go_wp2_with fail
  with_reducible refine Calls.mono (HMany.out _ Hb3.out) ?_
  rintro r w4 ⟨rfl, hb4⟩
  have HA4 := Lib.hid (HA3.out.below hb4 HA3.out.lt)
  have HB4 := Lib.hid (HB3.out.below hb4 HB3.out.lt)
  have Hb4 := Lib.hid (below_trans Hb3.out Hb3.out.size hb4)
  clear b0 b1 hb4 HA3 HB3
  cases t1 with
  | true =>
    go_wp2
    go_ret
    exact ⟨rfl, Hb4.out⟩
  | false =>
  obtain ⟨b0, b1⟩ := blk2f14 HB4.out
  go_wp2_with fail
  with_reducible refine Calls.mono (HMany'.out _ Hb4.out) ?_
  rintro r w5 ⟨rfl, hb5⟩
  have HA5 := Lib.hid (HA4.out.below hb5 HA4.out.lt)
  have HB5 := Lib.hid (HB4.out.below hb5 HB4.out.lt)
  have Hb5 := Lib.hid (below_trans Hb4.out Hb4.out.size hb5)
  clear b0 b1 hb5 HA4 HB4
  cases t2 with
  | true =>
    go_wp2
    go_ret
    exact ⟨rfl, Hb5.out⟩
  | false =>
  by_cases h50 : (50 : Int) < (nt : Int)
  · go_wp2
    go_ret
    exact ⟨rfl, Hb5.out⟩
  have hnt2 : (nt : Int) ≤ 50 := by omega
  obtain ⟨a0, a1, a2, a3⟩ := blk4f14 HA5.out
  obtain ⟨b0, b1⟩ := blk2f14 HB5.out
  by_cases hne : n0 = n1
  · have e1 : (n0 == n1) = true := by simp [hne]
    clear hne
    go_wp2
    go_ret
    exact ⟨rfl, Hb5.out⟩
  have e1 : (n0 == n1) = false := by simp [hne]
  have Hne := Lib.hid hne
  obtain ⟨hl60, -⟩ := manyB_lens Ht1.out
  obtain ⟨hl60', -⟩ := manyB_lens Ht2.out
  have HNw := Lib.hid (suNew_stays A cap l w HRows.out hl60)
  have HRh := Lib.hid (rHeads_stays A cap l w HRows.out hl60)
  have HS0 := Lib.hid (heads60 hl60)
  have HNw' := Lib.hid (suNew_stays A' cap' l' w HRows'.out hl60')
  have HRh' := Lib.hid (rHeads_stays A' cap' l' w HRows'.out hl60')
  have HS1 := Lib.hid (heads60 hl60')
  rw [Hnl.out] at HNw HRh
  rw [Hnl'.out] at HNw' HRh'
  obtain ⟨S0, hS0⟩ : ∃ S, stbS (headsOf l) = S := ⟨_, rfl⟩
  rw [hS0] at HNw HRh HS0
  obtain ⟨S1, hS1⟩ : ∃ S, stbS (headsOf l') = S := ⟨_, rfl⟩
  rw [hS1] at HNw' HRh' HS1
  clear hl60 hl60' hS0 hS1 hne HMany HMany' HRows HRows' Ht1 Ht2 h50
  have HTwo := Lib.hid (two_any n0 n1 n2 n3 A nl cap A' nl' cap' w5)
  go_wp2_with fail
  with_reducible refine Calls.mono HTwo.out ?_
  rintro r w6 ⟨p1, p2, s1, s2, rfl, kp1, kp2, ks1, ks2, hbd, hb6⟩
  have HA6 := Lib.hid (HA5.out.below hb6 HA5.out.lt)
  have HB6 := Lib.hid (HB5.out.below hb6 HB5.out.lt)
  have Hb6 := Lib.hid (below_trans Hb5.out Hb5.out.size hb6)
  obtain ⟨q0, hq0⟩ : ∃ z, n2 % 4294967296 = z := ⟨_, rfl⟩
  obtain ⟨q1, hq1⟩ : ∃ z, n3 % 4294967296 = z := ⟨_, rfl⟩
  rw [hq0] at kp1
  rw [hq1] at kp2
  have Hq0 := Lib.hid (show 0 ≤ q0 ∧ q0 ≤ 4294967295 by omega)
  have Hq1 := Lib.hid (show 0 ≤ q1 ∧ q1 ≤ 4294967295 by omega)
  have HK6 := Lib.hid (show Blk w6 p1 65 (exA n0 n1 q0 false false false false false false 0 true true true q0 (.slice none 0 0) (.pointer none)) ∧ Blk w6 p2 65 (exA n1 n0 q1 false false false false false false 0 true true true q1 (.slice none 0 0) (.pointer none)) ∧ Blk w6 s1 48 #[.pointer (some ⟨p1, 0, none⟩), .slice A nl cap, .slice none 0 0] ∧ Blk w6 s2 48 #[.pointer (some ⟨p2, 0, none⟩), .slice A' nl' cap', .slice none 0 0] from ⟨kp1, kp2, ks1, ks2⟩)
  have HBd := Lib.hid hbd
  have H56 := Lib.hid hb6
  clear kp1 kp2 ks1 ks2 hb6 hq0 hq1 hbd a0 a1 a2 a3 b0 b1 HTwo e1
  have HSd := Lib.hid (show Sides w5 w6 s1 s2 p1 p2 p1 p2 (.slice A nl cap) (.slice A' nl' cap') (freshX n0 n1 q0) (freshX n1 n0 q1) (.slice none 0 0) (.slice none 0 0) [] [] from ⟨.fresh HK6.out.1 Hq0.out, .fresh HK6.out.2.1 Hq1.out, HK6.out.2.2.1, HK6.out.2.2.2, OwnR.nil _ _, OwnR.nil _ _, .inl rfl, HBd.out.2.2.2.2, HBd.out.2.2.2.2.1, ⟨HK6.out.1.lt, HK6.out.2.1.lt⟩, ⟨HBd.out.2.2.1, HBd.out.2.2.2.1, HBd.out.1, HBd.out.2.1, HBd.out.1, HBd.out.2.1⟩, ⟨Nat.zero_le _, Nat.zero_le _⟩, ⟨Nat.zero_le _, Nat.zero_le _⟩, H56.out⟩)
  have HNx := Lib.hid (fun W (hW : Below w5.heap.size w5 W) => HNw.out W (below_trans Hb5.out Hb5.out.size hW))
  have HNx' := Lib.hid (fun W (hW : Below w5.heap.size w5 W) => HNw'.out W (below_trans Hb5.out Hb5.out.size hW))
  clear HK6 HBd HA6 HNw HNw' HRh HRh' HB6
  go_wp2
  go_loopw [47] (fun i wr => ∃ (k qa qb ρ : Nat) (x y : ExM) (ta tb : Value) (tx ty : List Hd), i = .int .i64 k ∧ k ≤ 50 ∧ Hid (Sides w5 wr s1 s2 p1 p2 qa qb (.slice A nl cap) (.slice A' nl' cap') x y ta tb tx ty ∧ WayW n0 n1 q0 q1 S0 S1 ρ x y tx ty ∧ NearX n0 n1 (2 * k) true ρ)) (fun i _ => 51 - (intOf i).toNat)
  case atStart => exact ⟨0, p1, p2, 0, _, _, _, _, _, _, rfl, Nat.zero_le _, Lib.hid ⟨HSd.out, .start Hne.out, near_start _⟩⟩
  case round =>
    obtain ⟨k, qa, qb, ρ, x, y, ta, tb, tx, ty, rfl, hk, HJ⟩ := hrel
    obtain ⟨wo, hwo⟩ : ∃ wo, wo = wr := ⟨_, rfl⟩
    subst hwo
    by_cases hlt : k < 50
    · have hkl : (k : Int) < 50 := by omega
      have Hlt := Lib.hid hlt
      clear hlt hk
      have Hlen := Lib.hid (show tx.length ≤ 60 ∧ ty.length ≤ 60 from by have := HJ.out.2.1.begins; have := HS0.out; have := HS1.out; omega)
      have HL := Lib.hid (hears_any w5 wo s1 s2 p1 p2 qa qb A nl cap _ x y ta tb tx ty S0 HS0.out HJ.out.1 (by have := Hlen.out.1; omega) HNx.out)
      go_wp2_with fail
      with_reducible refine Calls.mono HL.out ?_
      rintro r w7 hh
      obtain ⟨rfl, q', t', hM, -⟩ := hh
      obtain ⟨-, ρ1, hW1, hst1⟩ := HJ.out.2.1.left HS0.out HS1.out Hq0.out Hq1.out
      have hn1 := near_step HJ.out.2.2 hst1
      obtain ⟨x', hx'⟩ : ∃ z', (hearM x y.said S0).1 = z' := ⟨_, rfl⟩
      obtain ⟨tx', htx'⟩ : ∃ tz', tookX tx (hearM x y.said S0).2 y.said.hs = tz' := ⟨_, rfl⟩
      obtain ⟨bz, hbz⟩ : ∃ b, ((hearM x y.said S0).2 != 3) = b := ⟨_, rfl⟩
      rw [hx', htx'] at hM hW1
      rw [hbz]
      have Hlen1 := Lib.hid (show tx'.length ≤ 60 ∧ ty.length ≤ 60 from by have := hW1.begins; have := HS0.out; have := HS1.out; omega)
      have HM1 := Lib.hid hM
      have HW1 := Lib.hid hW1
      have Hn1 := Lib.hid hn1
      have HR := Lib.hid (hears_any w5 w7 s2 s1 p2 p1 qb q' A' nl' cap' _ y x' tb t' ty tx' S1 HS1.out hM.swap (by have := Hlen1.out.2; omega) HNx'.out)
      clear hM hW1 hst1 hn1 hx' htx' hbz HL HJ
      go_wp2_with fail
      with_reducible refine Calls.mono HR.out ?_
      rintro r w8 hh
      obtain ⟨rfl, q2, t2, hM2, -⟩ := hh
      obtain ⟨-, ρ2, hW2, hst2⟩ := HW1.out.right HS0.out HS1.out Hq0.out Hq1.out
      have hn2 := near_step Hn1.out hst2
      have HF := Lib.hid (And.intro hM2.swap (And.intro hW2 hn2))
      clear hM2 hW2 hst2 hn2 HR HW1 HM1 Hn1
      go_wp2
      go_roundw
      case measure => have := Hlt.out; simp [intOf]; omega
      case rel => exact ⟨k + 1, q', q2, ρ2, _, _, _, _, _, _, by go_num, Hlt.out, Lib.hid ⟨HF.out.1, HF.out.2.1, HF.out.2.2⟩⟩
    · have hkl : ¬ (k : Int) < 50 := by omega
      have h100 := HJ.out.2.1.near HS0.out HS1.out HJ.out.2.2 (by omega)
      have hW := HJ.out.2.1
      rw [h100] at hW
      obtain ⟨hdx, -, -, -, hax, -, -, -, hmk⟩ := hW.ends HS0.out HS1.out
      have HDn := Lib.hid hdx
      have HAg := Lib.hid hax
      have HMk := Lib.hid hmk
      have HSo := Lib.hid HJ.out.1
      clear h100 hW hdx hax hmk hlt hk HJ
      obtain ⟨xd, hxd⟩ : ∃ d, x.said = d := ⟨_, rfl⟩
      obtain ⟨yd, hyd⟩ : ∃ d, y.said = d := ⟨_, rfl⟩
      obtain ⟨xi, xm, xs, xq, xh⟩ := xd
      obtain ⟨yi, ym, ys, yq, yh⟩ := yd
      have HT1 := Lib.hid (told_any p1 qa x wo HSo.out.xa (by have := HSo.out.said.1; omega))
      have HT2 := Lib.hid (fun W (hW : Below wo.heap.size wo W) => told_any p2 qb y W (HSo.out.keep hW).xb (by have := HSo.out.said.2; omega))
      rw [hxd] at HT1
      rw [hyd] at HT2 HMk
      simp only at HT1 HT2 HMk
      have Hxd := Lib.hid hxd
      have Hyd := Lib.hid hyd
      obtain ⟨e0, e1, e2⟩ : _ ∧ _ ∧ _ := ⟨HSo.out.ba.cell 0, HSo.out.ba.cell 1, HSo.out.ba.cell 2⟩
      simp only [List.getElem?_toArray, List.getElem?_cons_zero, List.getElem?_cons_succ] at e0 e1 e2
      clear hxd hyd
      go_wp2_with fail
      with_reducible refine Calls.mono HT1.out ?_
      rintro r w7 ⟨u9, rfl, ho9, hb7⟩
      obtain ⟨A9, n9, c9, hu9, hn9⟩ := ownT_slice ho9
      subst hu9
      obtain ⟨w8, hw8⟩ : ∃ w8, w7.alloc (.cells #[.bool xi, .bool xm, .bool xs, .int .i64 xq, .slice A9 n9 c9] 33) = w8 := ⟨_, rfl⟩
      obtain ⟨g9, hg9⟩ : ∃ g, w7.heap.size = g := ⟨_, rfl⟩
      have hk9 := Blk.new w7 33 #[.bool xi, .bool xm, .bool xs, .int .i64 xq, .slice A9 n9 c9]
      have hb8 := below_new w7 (.cells #[.bool xi, .bool xm, .bool xs, .int .i64 xq, .slice A9 n9 c9] 33)
      rw [hw8, hg9] at hk9
      rw [hw8] at hb8
      have HK9 := Lib.hid hk9
      have HO9 := Lib.hid (ho9.below hb8)
      have Hb8 := Lib.hid (below_trans hb7 hb7.size hb8)
      have Hn9 := Lib.hid hn9
      obtain ⟨f0, f1, f2⟩ : _ ∧ _ ∧ _ := ⟨(HSo.out.keep Hb8.out).bb.cell 0, (HSo.out.keep Hb8.out).bb.cell 1, (HSo.out.keep Hb8.out).bb.cell 2⟩
      simp only [List.getElem?_toArray, List.getElem?_cons_zero, List.getElem?_cons_succ] at f0 f1 f2
      clear e0 e1 e2 ho9 hb7 hb8 hk9 hn9
      go_wp2_with fail
      with_reducible refine Calls.mono (HT2.out _ Hb8.out) ?_
      rintro r w9 ⟨u11, rfl, ho11, hb9⟩
      obtain ⟨A11, n11, c11, hu11, hn11⟩ := ownT_slice ho11
      subst hu11
      obtain ⟨w10, hw10⟩ : ∃ w, w9.alloc (.cells #[.bool yi, .bool ym, .bool ys, .int .i64 yq, .slice A11 n11 c11] 33) = w := ⟨_, rfl⟩
      obtain ⟨g11, hg11⟩ : ∃ g, w9.heap.size = g := ⟨_, rfl⟩
      have hk11 := Blk.new w9 33 #[.bool yi, .bool ym, .bool ys, .int .i64 yq, .slice A11 n11 c11]
      have hb10 := below_new w9 (.cells #[.bool yi, .bool ym, .bool ys, .int .i64 yq, .slice A11 n11 c11] 33)
      rw [hw10, hg11] at hk11
      rw [hw10] at hb10
      have HK11 := Lib.hid hk11
      have hb810 := below_trans hb9 hb9.size hb10
      have HK9b := Lib.hid (HK9.out.below hb810 HK9.out.lt)
      have HO9b := Lib.hid (HO9.out.below hb810)
      have Hb10 := Lib.hid (below_trans Hb8.out Hb8.out.size hb810)
      have HE : Hid (OwnR 33 5 DdC.cells (w10.alloc (.cells #[.bool yi, .bool ym, .bool ys, .int .i64 yq, .slice A11 n11 c11] 33)) w10.heap.size (.slice (some ⟨w10.heap.size, 0, none⟩) 1 1) [(⟨yi, ym, ys, yq, A11, n11, c11⟩ : DdC)]) := Lib.hid (own_one14 w10 ⟨yi, ym, ys, yq, A11, n11, c11⟩)
      have HbE := Lib.hid (below_new w10 (.cells #[.bool yi, .bool ym, .bool ys, .int .i64 yq, .slice A11 n11 c11] 33))
      obtain ⟨d0, d1, d2, d3, d4⟩ := blk5 hk11
      clear f0 f1 f2 ho11 hb9 hk11 hb10 hb810 hn11 HT1 HT2 HK9 HO9 hw8 hg9
      have HTs := Lib.hid (show RowsAt 5 DdC.cells (w10.alloc (.cells #[.bool yi, .bool ym, .bool ys, .int .i64 yq, .slice A11 n11 c11] 33)) (w10.alloc (.cells #[.bool yi, .bool ym, .bool ys, .int .i64 yq, .slice A11 n11 c11] 33)).heap.size At ts from ((HT.out.below (below_trans (below_trans (below_trans Hb5.out Hb5.out.size HSo.out.below) (Nat.le_trans Hb5.out.size HSo.out.below.size) Hb10.out) (Nat.le_trans Hb5.out.size (Nat.le_trans HSo.out.below.size Hb10.out.size)) HbE.out)).more (Nat.le_trans Hb5.out.size (Nat.le_trans HSo.out.below.size (Nat.le_trans Hb10.out.size HbE.out.size)))))
      go_wp2_with (at_builtin; (refine app_rows (e := 33) DdC.cells (fun _ => rfl) (by decide) (bytes := 40) (by decide) infoDd14 rfl Try.underlying24 onesDd14 (by rfl) _ _ (by rfl) w10.heap.size _ [(⟨yi, ym, ys, yq, A11, n11, c11⟩ : DdC)] (by rfl) HE.out At ct nt ts Hnt.out.symm (by rfl) HTs.out (by have := Hnt.out; simp; omega) (by simp) ?_); intro v13 w13 hown13 hg13 hor13; have HO13 := Lib.hid hown13; have Hb13 := Lib.hid (HbE.out.grown hg13 (by simp) (fun j hj => (HE.out.block j hj).1)); clear hown13 hg13 hor13; obtain ⟨A13, c13, hv13⟩ := HO13.out.shape; subst hv13; obtain ⟨n13, hn13⟩ : ∃ n, ([(⟨yi, ym, ys, yq, A11, n11, c11⟩ : DdC)] ++ ts).length = n := ⟨_, rfl⟩; rw [hn13] at HO13 ⊢; have Hn13 := Lib.hid hn13; clear hn13)
      have hbA := below_trans Hb10.out Hb10.out.size Hb13.out
      have HS2 := Lib.hid (HSo.out.keep hbA)
      have HP2 := Lib.hid (show OwnT w13 0 (.slice A9 n9 c9) xh ∧ Blk w13 g9 33 #[.bool xi, .bool xm, .bool xs, .int .i64 xq, .slice A9 n9 c9] ∧ Blk w13 g11 33 #[.bool yi, .bool ym, .bool ys, .int .i64 yq, .slice A11 n11 c11] ∧ OwnR 33 5 DdC.cells w13 0 (.slice A13 n13 c13) ([(⟨yi, ym, ys, yq, A11, n11, c11⟩ : DdC)] ++ ts) from ⟨(HO9b.out.below Hb13.out).lower (Nat.zero_le _), HK9b.out.below Hb13.out HK9b.out.lt, HK11.out.below Hb13.out HK11.out.lt, HO13.out.lower (Nat.zero_le _)⟩)
      have hn13i : (n13 : Int) ≤ 51 := by have := Hn13.out; have := Hnt.out; simp at *; omega
      obtain ⟨R, hR⟩ : ∃ R : List DdC, [(⟨yi, ym, ys, yq, A11, n11, c11⟩ : DdC)] ++ ts = R := ⟨_, rfl⟩
      rw [hR] at HP2 Hn13
      clear hbA d0 d1 d2 d3 d4 HO13 HSo HK9b HO9b HK11 HE HbE HTs hR
      go_loopw [77] (fun i wr => ∃ (k qa : Nat), i = .int .i64 k ∧ k ≤ n13 ∧ Hid (Sides w5 wr s1 s2 p1 p2 qa qb (.slice A nl cap) (.slice A' nl' cap') x y ta tb tx ty ∧ OwnT wr 0 (.slice A9 n9 c9) xh ∧ Blk wr g9 33 #[.bool xi, .bool xm, .bool xs, .int .i64 xq, .slice A9 n9 c9] ∧ Blk wr g11 33 #[.bool yi, .bool ym, .bool ys, .int .i64 yq, .slice A11 n11 c11] ∧ OwnR 33 5 DdC.cells wr 0 (.slice A13 n13 c13) R)) (fun i _ => n13 + 1 - (intOf i).toNat)
      case atStart => exact ⟨0, qa, rfl, Nat.zero_le _, Lib.hid ⟨HS2.out, HP2.out⟩⟩
      case round =>
        obtain ⟨k2, qa2, rfl, hk2, HZ⟩ := hrel
        obtain ⟨wl, hwl⟩ : ∃ wl, wl = wr := ⟨_, rfl⟩
        subst hwl
        clear HS2 HP2
        by_cases hlt : k2 < n13
        · have hkl2 : (k2 : Int) < (n13 : Int) := by omega
          obtain ⟨gr, orr, hA, z0, z1, z2, z3, z4⟩ := row_dd14 (OwnR.rows (C := 5) (cells := DdC.cells) (fun _ => rfl) HZ.out.2.2.2.2).2 k2 (by rw [Hn13.out]; exact hlt)
          obtain ⟨d, hd⟩ : ∃ d, R[k2]'(by rw [Hn13.out]; exact hlt) = d := ⟨_, rfl⟩
          rw [hd] at z0 z1 z2 z3 z4
          obtain ⟨b1, b2, b3, z, da, dm, dc⟩ := d
          simp only at z0 z1 z2 z3 z4
          have Hlt2 := Lib.hid hlt
          have HA13 := Lib.hid hA
          subst hA
          clear hd hlt hk2
          obtain ⟨w14, hw14⟩ : ∃ w, wl.alloc (.cells #[.bool b1, .bool b2, .bool b3, .int .i64 z, .slice da dm dc] 33) = w := ⟨_, rfl⟩
          obtain ⟨g14, hg14⟩ : ∃ g, wl.heap.size = g := ⟨_, rfl⟩
          have hk14 := Blk.new wl 33 #[.bool b1, .bool b2, .bool b3, .int .i64 z, .slice da dm dc]
          have hb14 := below_new wl (.cells #[.bool b1, .bool b2, .bool b3, .int .i64 z, .slice da dm dc] 33)
          rw [hw14, hg14] at hk14
          rw [hw14] at hb14
          have HZ14 := Lib.hid (And.intro (HZ.out.1.keep hb14) (And.intro (HZ.out.2.1.below hb14) (And.intro (HZ.out.2.2.1.below hb14 HZ.out.2.2.1.lt) (And.intro (HZ.out.2.2.2.1.below hb14 HZ.out.2.2.2.1.lt) (HZ.out.2.2.2.2.below hb14)))))
          have HK14 := Lib.hid hk14
          obtain ⟨d0, d1, d2, d3, d4⟩ := blk5 hk14
          obtain ⟨l0, l1, l2, l3, l4⟩ := blk5 HZ14.out.2.2.2.1
          clear hk14 hb14
          by_cases hz0 : z < 0
          · go_wp2
            go_roundw
            case measure => have := Hlt2.out; simp [intOf]; omega
            case rel => exact ⟨k2 + 1, qa2, by go_num, Hlt2.out, HZ14⟩
          by_cases hz1 : 4294967295 < z
          · go_wp2
            go_roundw
            case measure => have := Hlt2.out; simp [intOf]; omega
            case rel => exact ⟨k2 + 1, qa2, by go_num, Hlt2.out, HZ14⟩
          obtain ⟨hs, hhs⟩ : ∃ hs : List Hd, hs.length = dm := ⟨List.replicate dm ⟨0, 0, 0, 0, 0, 0, 0⟩, List.length_replicate⟩
          obtain ⟨t, ht⟩ : ∃ t, decide (b1 = yi ∧ b2 = ym ∧ b3 = ys ∧ z = yq) = t := ⟨_, rfl⟩
          obtain ⟨ld, hld⟩ : ∃ ld, x.ld = ld := ⟨_, rfl⟩
          obtain ⟨wt, hwt⟩ : ∃ wt : Int, (if t = true then (if ld = true then 0 else 1) else 3) = wt := ⟨_, rfl⟩
          have HHe := Lib.hid (show hearM x ⟨b1, b2, b3, z, hs⟩ S1 = (x, wt) from by
            have h := done_hears (x := x) ⟨b1, b2, b3, z, hs⟩ S1 HDn.out HAg.out ⟨(show 0 ≤ z by omega), (show z ≤ 4294967295 by omega)⟩
            rw [h, ← hwt, hld]
            have e : sameM x ⟨b1, b2, b3, z, hs⟩ = t := by
              rw [← ht]
              unfold sameM
              simp only [HMk.out.1, HMk.out.2.1, HMk.out.2.2.1, HMk.out.2.2.2]
            rw [e])
          have Hhs := Lib.hid hhs
          have Ht := Lib.hid ht
          have Hwt := Lib.hid hwt
          obtain ⟨xv, hxv, -⟩ := HZ14.out.1.xa.ptr
          have HLd := Lib.hid (leads_any p1 ld w14 (by have := hxv.cell 4; simpa [ExM.ar, exA, hld] using this))
          obtain ⟨e0, e1, e2⟩ : _ ∧ _ ∧ _ := ⟨HZ14.out.1.ba.cell 0, HZ14.out.1.ba.cell 1, HZ14.out.1.ba.cell 2⟩
          simp only [List.getElem?_toArray, List.getElem?_cons_zero, List.getElem?_cons_succ] at e0 e1 e2
          clear hxv hhs ht hwt hld HZ
          go_upto_region 18 with fail
          go_cut [114] from 89 to 115 (fun v wx => v = .bool t ∧ wx = w14)
          case first =>
            rcases alike_keys b1 b2 b3 yi ym ys z yq Ht.out with ⟨k1, rfl⟩ | ⟨k1, k2', rfl⟩ | ⟨k1, k2', k3, rfl⟩ | ⟨k1, k2', k3, k4⟩
            all_goals
              go_wp2_with fail
              go_meet
              exact ⟨rfl, rfl⟩
          case rest =>
          obtain ⟨rfl, hwc⟩ := hcut
          have hwc := hwc.symm
          subst hwc
          go_upto_if 114 with fail
          go_cut [15] from 115 to 120 (fun v wx => v = .int .i64 wt ∧ wx = w14)
          case first =>
            cases t with
            | false =>
              have hw3 : (3 : Int) = wt := by rw [← Hwt.out]; simp
              clear Hwt Ht
              go_wp2_with fail
              go_meet
              exact ⟨by first | rfl | rw [hw3], rfl⟩
            | true =>
              go_wp2_with fail
              with_reducible refine Calls.mono HLd.out ?_
              rintro r wx ⟨rfl, rfl⟩
              cases ld with
              | true =>
                have hw3 : (0 : Int) = wt := by rw [← Hwt.out]; simp
                clear Hwt Ht
                go_wp2_with fail
                go_meet
                exact ⟨by first | rfl | rw [hw3], rfl⟩
              | false =>
                have hw3 : (1 : Int) = wt := by rw [← Hwt.out]; simp
                clear Hwt Ht
                go_wp2_with fail
                go_meet
                exact ⟨by first | rfl | rw [hw3], rfl⟩
          case rest =>
          obtain ⟨rfl, hwc⟩ := hcut
          have hwc := hwc.symm
          subst hwc
          clear Hwt Ht HLd hz0 hz1 e0 e1 e2 d0 d1 d2 d3 d4 l0 l1 l2 l3 l4 z0 z1 z2 z3 z4
          have HL2 := Lib.hid (HB5.out.below HZ14.out.1.below HB5.out.lt)
          go_upto_region 22 with fail
          refine wp_region_F (F := fun W => Blk W s1 48 #[.pointer (some ⟨p1, 0, none⟩), .slice A nl cap, ta] ∧ Blk W g14 33 #[.bool b1, .bool b2, .bool b3, .int .i64 z, .slice da dm dc] ∧ Blk W g2 39 #[.slice A nl cap, .slice A' nl' cap']) (n := 9) (m := 9) (s := #[false, false, false, false, false, false, false, false, false]) (by kernel_rfl) (by kernel_rfl) (by kernel_rfl) ?_
          intro wd hwd
          have hbd : Below w14.heap.size w14 wd := by rw [hwd.out]; exact (Below.refl _ _).drew
          have HZd := Lib.hid (And.intro (HZ14.out.1.keep hbd) (And.intro (HZ14.out.2.1.below hbd) (And.intro (HZ14.out.2.2.1.below hbd HZ14.out.2.2.1.lt) (And.intro (HZ14.out.2.2.2.1.below hbd HZ14.out.2.2.2.1.lt) (HZ14.out.2.2.2.2.below hbd)))))
          have hF := And.intro HZd.out.1.ba (And.intro (HK14.out.below hbd HK14.out.lt) (HL2.out.below hbd HL2.out.lt))
          clear hwd hbd
          refine G_take (i := 0) (d := some 120) (by decide) (s' := #[true, false, false, false, false, false, false, false, false]) (by kernel_rfl) rfl rfl (by kernel_rfl) (by kernel_rfl) (by kernel_rfl) (fun _ _ _ h => h) (Or.inl ⟨by kernel_rfl, fun W hW => by obtain ⟨a0, a1, a2, a3, a4⟩ := blk5 hW.2.1; obtain ⟨z0, z1, z2⟩ : _ ∧ _ ∧ _ := ⟨hW.1.cell 0, hW.1.cell 1, hW.1.cell 2⟩; simp only [List.getElem?_toArray, List.getElem?_cons_zero, List.getElem?_cons_succ] at z0 z1 z2; obtain ⟨b0, b1⟩ := blk2f14 hW.2.2; go_simp; try with_reducible rfl⟩) hF ?_
          go_frame
          refine G_take (i := 1) (d := some 121) (by decide) (s' := #[true, true, false, false, false, false, false, false, false]) (by kernel_rfl) rfl rfl (by kernel_rfl) (by kernel_rfl) (by kernel_rfl) (fun _ _ _ h => h) (Or.inl ⟨by kernel_rfl, fun W hW => by obtain ⟨a0, a1, a2, a3, a4⟩ := blk5 hW.2.1; obtain ⟨z0, z1, z2⟩ : _ ∧ _ ∧ _ := ⟨hW.1.cell 0, hW.1.cell 1, hW.1.cell 2⟩; simp only [List.getElem?_toArray, List.getElem?_cons_zero, List.getElem?_cons_succ] at z0 z1 z2; obtain ⟨b0, b1⟩ := blk2f14 hW.2.2; go_simp; try with_reducible rfl⟩) hF ?_
          go_frame
          refine G_take (i := 2) (d := some 122) (by decide) (s' := #[true, true, true, false, false, false, false, false, false]) (by kernel_rfl) rfl rfl (by kernel_rfl) (by kernel_rfl) (by kernel_rfl) (fun _ _ _ h => h) (Or.inl ⟨by kernel_rfl, fun W hW => by obtain ⟨a0, a1, a2, a3, a4⟩ := blk5 hW.2.1; obtain ⟨z0, z1, z2⟩ : _ ∧ _ ∧ _ := ⟨hW.1.cell 0, hW.1.cell 1, hW.1.cell 2⟩; simp only [List.getElem?_toArray, List.getElem?_cons_zero, List.getElem?_cons_succ] at z0 z1 z2; obtain ⟨b0, b1⟩ := blk2f14 hW.2.2; go_simp; try with_reducible rfl⟩) hF ?_
          go_frame
          refine G_take (i := 3) (d := some 123) (by decide) (s' := #[true, true, true, true, false, false, false, false, false]) (by kernel_rfl) rfl rfl (by kernel_rfl) (by kernel_rfl) (by kernel_rfl) (fun _ _ _ h => h) (Or.inl ⟨by kernel_rfl, fun W hW => by obtain ⟨a0, a1, a2, a3, a4⟩ := blk5 hW.2.1; obtain ⟨z0, z1, z2⟩ : _ ∧ _ ∧ _ := ⟨hW.1.cell 0, hW.1.cell 1, hW.1.cell 2⟩; simp only [List.getElem?_toArray, List.getElem?_cons_zero, List.getElem?_cons_succ] at z0 z1 z2; obtain ⟨b0, b1⟩ := blk2f14 hW.2.2; go_simp; try with_reducible rfl⟩) hF ?_
          go_frame
          refine G_take (i := 4) (d := some 124) (by decide) (s' := #[true, true, true, true, true, false, false, false, false]) (by kernel_rfl) rfl rfl (by kernel_rfl) (by kernel_rfl) (by kernel_rfl) (fun _ _ _ h => h) (Or.inl ⟨by kernel_rfl, fun W hW => by obtain ⟨a0, a1, a2, a3, a4⟩ := blk5 hW.2.1; obtain ⟨z0, z1, z2⟩ : _ ∧ _ ∧ _ := ⟨hW.1.cell 0, hW.1.cell 1, hW.1.cell 2⟩; simp only [List.getElem?_toArray, List.getElem?_cons_zero, List.getElem?_cons_succ] at z0 z1 z2; obtain ⟨b0, b1⟩ := blk2f14 hW.2.2; go_simp; try with_reducible rfl⟩) hF ?_
          go_frame
          refine G_take (i := 5) (d := some 125) (by decide) (s' := #[true, true, true, true, true, true, false, false, false]) (by kernel_rfl) rfl rfl (by kernel_rfl) (by kernel_rfl) (by kernel_rfl) (fun _ _ _ h => h) (Or.inl ⟨by kernel_rfl, fun W hW => by obtain ⟨a0, a1, a2, a3, a4⟩ := blk5 hW.2.1; obtain ⟨z0, z1, z2⟩ : _ ∧ _ ∧ _ := ⟨hW.1.cell 0, hW.1.cell 1, hW.1.cell 2⟩; simp only [List.getElem?_toArray, List.getElem?_cons_zero, List.getElem?_cons_succ] at z0 z1 z2; obtain ⟨b0, b1⟩ := blk2f14 hW.2.2; go_simp; try with_reducible rfl⟩) hF ?_
          go_frame
          refine G_take (i := 6) (d := some 126) (by decide) (s' := #[true, true, true, true, true, true, true, false, false]) (by kernel_rfl) rfl rfl (by kernel_rfl) (by kernel_rfl) (by kernel_rfl) (fun _ _ _ h => h) (Or.inl ⟨by kernel_rfl, fun W hW => by obtain ⟨a0, a1, a2, a3, a4⟩ := blk5 hW.2.1; obtain ⟨z0, z1, z2⟩ : _ ∧ _ ∧ _ := ⟨hW.1.cell 0, hW.1.cell 1, hW.1.cell 2⟩; simp only [List.getElem?_toArray, List.getElem?_cons_zero, List.getElem?_cons_succ] at z0 z1 z2; obtain ⟨b0, b1⟩ := blk2f14 hW.2.2; go_simp; try with_reducible rfl⟩) hF ?_
          go_frame
          refine F_one (i := 7) (s' := #[true, true, true, true, true, true, true, true, false]) (by kernel_rfl) (by kernel_rfl) ?_
          have hH := hear_any (X := Xs ta tb) p1 qa2 x ⟨b1, b2, b3, z, hs⟩ da dc A' nl' cap' S1 wd HZd.out.1.xa HZd.out.1.old HS1.out (fun e => by rw [HAg.out] at e; cases e) (fun W hW => HNx'.out W (HZd.out.1.below.grown hW HZd.out.1.below.size (fun g e => by injection e with e; rw [← e]; exact HZd.out.1.bds.2.2.1)))
          simp only [DdV.val, Hhs.out] at hH
          refine (wpOp_enterL (i := 7) (d := some 127) (f := 11) (args := #[.pointer (some ⟨p1, 0, none⟩), .agg #[.bool b1, .bool b2, .bool b3, .int .i64 z, .slice da dm dc], .slice A' nl' cap']) rfl rfl (by kernel_rfl) (by go_simp) (hH.mono ?_))
          rintro r w15 hh
          have hdd := HZd.out.1.heardOwn hh HZd.out.2.2.2.2 (by decide) (by decide)
          obtain ⟨rfl, ⟨q5, h5⟩, hk5, ho5⟩ := HZd.out.1.heard hh
          have hF0 := hF
          rw [HHe.out] at h5 ⊢
          dsimp only at h5 ⊢
          have HZe := Lib.hid (And.intro h5 (And.intro (ho5 HZd.out.2.1) (And.intro (hk5 HZd.out.2.2.1 (by decide) (by decide)) (And.intro (hk5 HZd.out.2.2.2.1 (by decide) (by decide)) hdd))))
          have hF : Blk w15 s1 48 #[.pointer (some ⟨p1, 0, none⟩), .slice A nl cap, ta] ∧ Blk w15 g14 33 #[.bool b1, .bool b2, .bool b3, .int .i64 z, .slice da dm dc] ∧ Blk w15 g2 39 #[.slice A nl cap, .slice A' nl' cap'] := ⟨h5.ba, hk5 hF0.2.1 (by decide) (by decide), hk5 hF0.2.2 (by decide) (by decide)⟩
          clear hh hH h5 hk5 ho5 hF0 hdd
          refine ⟨_, rfl, fun _ => hF, ?_⟩
          go_frame
          refine G_take (i := 8) (d := some 16) (by decide) (s' := #[true, true, true, true, true, true, true, true, true]) (by kernel_rfl) rfl rfl (by kernel_rfl) (by kernel_rfl) (by kernel_rfl) (fun _ _ _ h => h) (Or.inl ⟨by kernel_rfl, fun W hW => by obtain ⟨a0, a1, a2, a3, a4⟩ := blk5 hW.2.1; obtain ⟨z0, z1, z2⟩ : _ ∧ _ ∧ _ := ⟨hW.1.cell 0, hW.1.cell 1, hW.1.cell 2⟩; simp only [List.getElem?_toArray, List.getElem?_cons_zero, List.getElem?_cons_succ] at z0 z1 z2; obtain ⟨b0, b1⟩ := blk2f14 hW.2.2; go_simp; try with_reducible rfl⟩) hF ?_
          go_frame
          refine F_done (by kernel_rfl) ?_ _
          clear hF HZd HZ14 HK14 HL2 HHe Hhs
          obtain ⟨e0, e1, e2⟩ : _ ∧ _ ∧ _ := ⟨HZe.out.1.ba.cell 0, HZe.out.1.ba.cell 1, HZe.out.1.ba.cell 2⟩
          simp only [List.getElem?_toArray, List.getElem?_cons_zero, List.getElem?_cons_succ] at e0 e1 e2
          have HT3 := Lib.hid (told_any p1 q5 x w15 HZe.out.1.xa (by have := HZe.out.1.said.1; omega))
          rw [Hxd.out] at HT3
          simp only at HT3
          go_wp2_with fail
          with_reducible refine Calls.mono HT3.out ?_
          rintro r w16 ⟨u17, rfl, ho17, hb16⟩
          obtain ⟨A17, n17, c17, hu17, hn17⟩ := ownT_slice ho17
          subst hu17
          obtain ⟨w17, hw17⟩ : ∃ w, w16.alloc (.cells #[.bool xi, .bool xm, .bool xs, .int .i64 xq, .slice A17 n17 c17] 33) = w := ⟨_, rfl⟩
          obtain ⟨g17, hg17⟩ : ∃ g, w16.heap.size = g := ⟨_, rfl⟩
          have hk17 := Blk.new w16 33 #[.bool xi, .bool xm, .bool xs, .int .i64 xq, .slice A17 n17 c17]
          have hb17 := below_new w16 (.cells #[.bool xi, .bool xm, .bool xs, .int .i64 xq, .slice A17 n17 c17] 33)
          rw [hw17, hg17] at hk17
          rw [hw17] at hb17
          have ho17 := ho17.below hb17
          have hb := below_trans hb16 hb16.size hb17
          have HZf := Lib.hid (And.intro (HZe.out.1.keep hb) (And.intro (HZe.out.2.1.below hb) (And.intro (HZe.out.2.2.1.below hb HZe.out.2.2.1.lt) (And.intro (HZe.out.2.2.2.1.below hb HZe.out.2.2.2.1.lt) (HZe.out.2.2.2.2.below hb)))))
          have hn99 : n9 = n17 := by rw [← Hn9.out, ← hn17]
          subst hn99
          obtain ⟨xv, hxv, -⟩ := HZf.out.1.xa.ptr
          have HD3 := Lib.hid (done_any p1 true w17 (by have := hxv.cell 5; simpa [ExM.ar, exA, HDn.out] using this))
          have HSm := Lib.hid (same14_any xi xm xs xq A9 A17 c9 c17 xh w17 (OwnR.rows (C := 7) (cells := Hd.cells) (fun _ => rfl) HZf.out.2.1).2 (OwnR.rows (C := 7) (cells := Hd.cells) (fun _ => rfl) ho17).2 (by have := HZf.out.1.said.1; rw [Hxd.out] at this; simp only at this; omega) n9 Hn9.out.symm)
          clear e0 e1 e2
          obtain ⟨e0, e1, e2⟩ : _ ∧ _ ∧ _ := ⟨HZf.out.1.ba.cell 0, HZf.out.1.ba.cell 1, HZf.out.1.ba.cell 2⟩
          simp only [List.getElem?_toArray, List.getElem?_cons_zero, List.getElem?_cons_succ] at e0 e1 e2
          obtain ⟨f0, f1, f2, f3, f4⟩ := blk5 HZf.out.2.2.1
          obtain ⟨h0, h1, h2, h3, h4⟩ := blk5 hk17
          clear hxv hk17 hb hb16 hb17 ho17 hn17 HZe HT3
          go_wp2_with fail
          with_reducible refine Calls.mono HD3.out ?_
          rintro r wx ⟨rfl, rfl⟩
          go_wp2_with fail
          with_reducible refine Calls.mono HSm.out ?_
          rintro r w18 ⟨rfl, hb18⟩
          have HZg := Lib.hid (And.intro (HZf.out.1.keep hb18) (And.intro (HZf.out.2.1.below hb18) (And.intro (HZf.out.2.2.1.below hb18 HZf.out.2.2.1.lt) (And.intro (HZf.out.2.2.2.1.below hb18 HZf.out.2.2.2.1.lt) (HZf.out.2.2.2.2.below hb18)))))
          clear e0 e1 e2 f0 f1 f2 f3 f4 h0 h1 h2 h3 h4 hb18 HZf
          go_wp2
          go_roundw
          case measure => have := Hlt2.out; simp [intOf]; omega
          case rel => exact ⟨k2 + 1, q5, by go_num, Hlt2.out, HZg⟩
        · have hkl2 : ¬ (k2 : Int) < (n13 : Int) := by omega
          have HFn := Lib.hid (below_trans Hb5.out Hb5.out.size HZ.out.1.below)
          clear hlt hk2 HZ
          go_wp2
          go_ret
          exact ⟨rfl, HFn.out⟩

end Go.Proofs.Ytfpjkeddcagfcaa
