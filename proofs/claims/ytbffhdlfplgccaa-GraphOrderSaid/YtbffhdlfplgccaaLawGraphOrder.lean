/-
  The law GraphOrder: its walk.
-/
import Derived.Test.YtbffhdlfplgccaaGrWakes
import Derived.Test.YtbffhdlfplgccaaGrOrder
import Derived.Test.YtbffhdlfplgccaaLsMany
namespace Go.Proofs.Ytbffhdlfplgccaa
open Go.RowKit Go.Sort

theorem edges_lenO (l : List VX) : (edgesV l).length ≤ 2000 := by
  unfold edgesV
  rw [edges_pre, List.length_append]
  have h1 := preA_len (costC (countsV l)) 15
  have h2 := preB_len (costC (countsV l)) 64
  omega
theorem leaves_lenO (l : List VX) : (leavesV l).length ≤ 100 := by
  unfold leavesV
  rw [leaves_pre]
  have h1 := preF_len (leafCost (countsV l)) 15
  omega
set_option maxHeartbeats 16000000 in
set_option maxRecDepth 100000 in
theorem graphOrder_any (A : Option Addr) (cap : Nat) (l : List Lsa) (x : Lsa) (a : Nat) (ha : a ≤ 255) (w : World) (hl : LsasAt w w.heap.size A l) (hm : l.length ≤ maxLen) (hcap : l.length ≤ cap) (hx : x.ok w w.heap.size) :
    Calls Try.prog 12 #[.slice A l.length cap, .agg x.cells.toArray, .int .u8 a] w fun r w' => r = .returned (.bool true) ∧ Below w.heap.size w w' := by
  have HL := Lib.hid hl
  obtain ⟨t, ht⟩ : ∃ t, manyB 40 l = t := ⟨_, rfl⟩
  have HMany := Lib.hid (fun W (hW : Below w.heap.size w W) => many20 A cap l W w.heap.size (hl.rows.below hW) hW.size hm l.length rfl ht)
  have Ht := Lib.hid ht
  have Hcap := Lib.hid hcap
  have hxl := hx.links
  have hxm := hx.members
  obtain ⟨⟨y1, y2, y3, y4, y5, y6, y7⟩, ka, kc, ls, ma, mc, ms⟩ := x
  unfold Lsa.cells
  simp only at hxl hxm ⊢
  obtain ⟨nl, hnl⟩ : ∃ nl, ls.length = nl := ⟨_, rfl⟩
  obtain ⟨nm, hnm⟩ : ∃ nm, ms.length = nm := ⟨_, rfl⟩
  rw [hnl, hnm]
  have Hnl := Lib.hid hnl
  have Hnm := Lib.hid hnm
  have Hxl := Lib.hid hxl
  have Hxm := Lib.hid hxm
  obtain ⟨w0, hw0⟩ : ∃ w0, w.alloc (.cells #[.int .i64 y1, .int .i64 y2, .int .i64 y3, .int .i64 y4, .int .i64 y5, .int .i64 y6, .int .i64 y7, .slice ka nl kc, .slice ma nm mc] 32) = w0 := ⟨_, rfl⟩
  obtain ⟨g0, hg0⟩ : ∃ g0, w.heap.size = g0 := ⟨_, rfl⟩
  have hk0 := Blk.new w 32 #[.int .i64 y1, .int .i64 y2, .int .i64 y3, .int .i64 y4, .int .i64 y5, .int .i64 y6, .int .i64 y7, .slice ka nl kc, .slice ma nm mc]
  have hb0 := below_new w (.cells #[.int .i64 y1, .int .i64 y2, .int .i64 y3, .int .i64 y4, .int .i64 y5, .int .i64 y6, .int .i64 y7, .slice ka nl kc, .slice ma nm mc] 32)
  rw [hw0, hg0] at hk0
  rw [hw0] at hb0
  have K0 := Lib.hid hk0
  have B0 := Lib.hid hb0
  have Hg0 := Lib.hid hg0
  clear hl hm ht hcap hx hxl hxm hnl hnm hk0 hb0
  go_enter Try.func12, Try.ntmps12
  go_wp2_with fail
  with_reducible refine Calls.mono (wakes20 _) ?_
  rintro r w1 ⟨rfl, hb1⟩
  have K1 := Lib.hid (K0.out.below hb1 K0.out.lt)
  have B1 := Lib.hid (below_trans B0.out B0.out.size hb1)
  clear hb1
  go_wp2_with fail
  with_reducible refine Calls.mono (HMany.out _ B1.out) ?_
  rintro r w2 ⟨rfl, hb2⟩
  have K2 := Lib.hid (K1.out.below hb2 K1.out.lt)
  have B2 := Lib.hid (below_trans B1.out B1.out.size hb2)
  clear hb2 hw0
  obtain ⟨z0, z1, z2, z3, z4, z5, z6, z7, z8, zf⟩ := blk9 K2.out
  cases t with
  | true =>
    go_wp2
    go_ret
    exact ⟨rfl, B2.out⟩
  | false =>
    by_cases h20 : (20 : Int) < (nl : Int)
    · go_wp2
      go_ret
      exact ⟨rfl, B2.out⟩
    · by_cases h21 : (20 : Int) < (nm : Int)
      · go_wp2
        go_ret
        exact ⟨rfl, B2.out⟩
      · obtain ⟨hl40, hlens⟩ := manyB_lens Ht.out
        have Hlens := Lib.hid (show ∀ x ∈ l, x.links.length ≤ 1000 ∧ x.members.length ≤ 1000 from fun x hx => by have := hlens x hx; omega)
        have hli : (l.length : Int) ≤ 40 := by omega
        have hci : (l.length : Int) ≤ (cap : Int) := by have := Hcap.out; omega
        have hli2 : l.length ≤ 40 := hl40
        clear hlens hl40
        go_wp2
        clear z0 z1 z2 z3 z4 z5 z6 z7 z8 zf
        go_loopw [7, 31] (fun v i wr => ∃ k : Nat, i = .int .i64 k ∧ k ≤ l.length ∧ OwnR 32 9 Lsa.cells wr w2.heap.size v ((l.take k).reverse) ∧ ((l.take k).map keyX).Nodup ∧ Below w2.heap.size w2 wr) (fun _ i _ => l.length - (intOf i).toNat)
        case atStart => exact ⟨0, rfl, Nat.zero_le _, OwnR.nil _ _, List.Pairwise.nil, Below.refl _ _⟩
        case round =>
          obtain ⟨k, rfl, hk, hown, hnd, hb⟩ := hrel
          obtain ⟨A7, c7, hv7⟩ := hown.shape
          subst hv7
          have hPl : ((l.take k).reverse).length = k := by rw [List.length_reverse, List.length_take]; omega
          rw [hPl] at hown ⊢
          have Hown := Lib.hid hown
          have Hnd := Lib.hid hnd
          have Hb := Lib.hid hb
          have HPl := Lib.hid hPl
          by_cases hlt : k < l.length
          · obtain ⟨g, o, hA, -, x0, x1, x2, x3, x4, x5, x6, x7, x8⟩ := row_lsa9b (HL.out.rows.below (below_trans B2.out B2.out.size hb)) k hlt
            have hkl : (k : Int) < (l.length : Int) := by omega
            have hrv := rev_more hlt
            have hkm := keys_more hlt hnd
            have HA := Lib.hid hA
            rw [hA]
            have Hlt := Lib.hid hlt
            generalize l[k] = x at *
            obtain ⟨⟨i1, i2, i3, i4, i5, i6, i7⟩, kb, kd, lt, mb, md, mt⟩ := x
            simp only at x0 x1 x2 x3 x4 x5 x6 x7 x8
            obtain ⟨nl2, hnl2⟩ : ∃ nl2, lt.length = nl2 := ⟨_, rfl⟩
            obtain ⟨nm2, hnm2⟩ : ∃ nm2, mt.length = nm2 := ⟨_, rfl⟩
            rw [hnl2] at x7
            rw [hnm2] at x8
            have Hn2 := Lib.hid (And.intro hnl2 hnm2)
            have Hrv := Lib.hid hrv
            have Hkm := Lib.hid hkm
            obtain ⟨w8, hw8⟩ : ∃ w8, wr.alloc (.cells #[.int .i64 i1, .int .i64 i2, .int .i64 i3, .int .i64 i4, .int .i64 i5, .int .i64 i6, .int .i64 i7, .slice kb nl2 kd, .slice mb nm2 md] 32) = w8 := ⟨_, rfl⟩
            obtain ⟨g8, hg8⟩ : ∃ g8, wr.heap.size = g8 := ⟨_, rfl⟩
            have hk8 := Blk.new wr 32 #[.int .i64 i1, .int .i64 i2, .int .i64 i3, .int .i64 i4, .int .i64 i5, .int .i64 i6, .int .i64 i7, .slice kb nl2 kd, .slice mb nm2 md]
            have hb8 := below_new wr (.cells #[.int .i64 i1, .int .i64 i2, .int .i64 i3, .int .i64 i4, .int .i64 i5, .int .i64 i6, .int .i64 i7, .slice kb nl2 kd, .slice mb nm2 md] 32)
            rw [hw8, hg8] at hk8
            rw [hw8] at hb8
            have K8 := Lib.hid hk8
            have O8 := Lib.hid (hown.below hb8)
            have B8 := Lib.hid (below_trans hb hb.size hb8)
            have hkc : (k : Int) ≤ (cap : Int) := by omega
            clear hA hlt hk8 hb8 hown hnd hb hrv hkm hnl2 hnm2 hk hPl
            go_wp2
            clear x0 x1 x2 x3 x4 x5 x6 x7 x8
            go_loopw [40] (fun j wr => ∃ q : Nat, j = .int .i64 q ∧ q ≤ k ∧ (∀ y ∈ l.take q, (⟨i2, i3, i4⟩ : K3) ≠ keyX y) ∧ Below w8.heap.size w8 wr) (fun j _ => k - (intOf j).toNat)
            case atStart => exact ⟨0, rfl, Nat.zero_le _, by simp, Below.refl _ _⟩
            case round =>
              obtain ⟨q, rfl, hq, hno, hb⟩ := hrel
              have Hno := Lib.hid hno
              have Hbq := Lib.hid hb
              by_cases hql : q < k
              · have hqk : (q : Int) < (k : Int) := by omega
                obtain ⟨g', o', hA', -, x0, x1, x2, x3, x4, x5, x6, x7, x8⟩ := row_lsa9b (HL.out.rows.below (below_trans B2.out B2.out.size (below_trans B8.out B8.out.size hb))) q (by have := Hlt.out; omega)
                have hA2 := hA'.symm.trans HA.out
                injection hA2 with hA2
                injection hA2 with e1 e2
                subst e1 e2
                have hqi : (q : Int) < (l.length : Int) := by have := Hlt.out; omega
                have hts := List.take_succ_eq_append_getElem (l := l) (i := q) (by have := Hlt.out; omega)
                have Hql := Lib.hid hql
                generalize l[q]'(by have := Hlt.out; omega) = y at *
                obtain ⟨⟨f1, f2, f3, f4, f5, f6, f7⟩, ke, kf, lu, me, mf, mu⟩ := y
                simp only at x0 x1 x2 x3 x4 x5 x6 x7 x8
                obtain ⟨nl3, hnl3⟩ : ∃ nl3, lu.length = nl3 := ⟨_, rfl⟩
                obtain ⟨nm3, hnm3⟩ : ∃ nm3, mu.length = nm3 := ⟨_, rfl⟩
                rw [hnl3] at x7
                rw [hnm3] at x8
                obtain ⟨E, hE⟩ : ∃ E, decide ((⟨i2, i3, i4⟩ : K3) = ⟨f2, f3, f4⟩) = E := ⟨_, rfl⟩
                have Hts := Lib.hid (show E = false → ∀ y ∈ l.take (q + 1), (⟨i2, i3, i4⟩ : K3) ≠ keyX y from fun hEf y hy => by
                  rw [hts] at hy
                  rcases List.mem_append.1 hy with hy | hy
                  · exact hno y hy
                  · rw [List.mem_singleton] at hy
                    subst hy
                    exact of_decide_eq_false (hE.trans hEf))
                have he := eqKey20 i2 i3 i4 f2 f3 f4
                rw [hE] at he
                obtain ⟨w9, hw9⟩ : ∃ w9, wr.alloc (.cells #[.int .i64 f1, .int .i64 f2, .int .i64 f3, .int .i64 f4, .int .i64 f5, .int .i64 f6, .int .i64 f7, .slice ke nl3 kf, .slice me nm3 mf] 32) = w9 := ⟨_, rfl⟩
                obtain ⟨g9, hg9⟩ : ∃ g9, wr.heap.size = g9 := ⟨_, rfl⟩
                have hk9 := Blk.new wr 32 #[.int .i64 f1, .int .i64 f2, .int .i64 f3, .int .i64 f4, .int .i64 f5, .int .i64 f6, .int .i64 f7, .slice ke nl3 kf, .slice me nm3 mf]
                have hb9 := below_new wr (.cells #[.int .i64 f1, .int .i64 f2, .int .i64 f3, .int .i64 f4, .int .i64 f5, .int .i64 f6, .int .i64 f7, .slice ke nl3 kf, .slice me nm3 mf] 32)
                rw [hw9, hg9] at hk9
                rw [hw9] at hb9
                have hk8 := (K8.out.below hb K8.out.lt)
                have hk89 := hk8.below hb9 hk8.lt
                have B9 := Lib.hid (below_trans hb hb.size hb9)
                have CK := Lib.hid (fun a b c d e f g dd os => Calls.regrown_of (w := w9) (d := dd) (os := os) (key_any a b c d e f g _))
                obtain ⟨z0, z1, z2, z3, z4, z5, z6, z7, z8, zf⟩ := blk9 hk89
                obtain ⟨v0, v1, v2, v3, v4, v5, v6, v7, v8, vf⟩ := blk9 hk9
                have z0 := cell_regrown z0
                have z1 := cell_regrown z1
                have z2 := cell_regrown z2
                have z3 := cell_regrown z3
                have z4 := cell_regrown z4
                have z5 := cell_regrown z5
                have z6 := cell_regrown z6
                have v0 := cell_regrown v0
                have v1 := cell_regrown v1
                have v2 := cell_regrown v2
                have v3 := cell_regrown v3
                have v4 := cell_regrown v4
                have v5 := cell_regrown v5
                have v6 := cell_regrown v6
                clear hA' hts hno hb hnl3 hnm3 hE hk9 hb9 hk8 hk89 hql hq z7 z8 zf v7 v8 vf
                go_wp2_with fail
                refine wp_region_quiet_below (by kernel_rfl) (by kernel_rfl) ?_
                repeat (go_big_quiet_step (exact CK.out _ _ _ _ _ _ _ _ _))
                refine wpQuiet_nil ?_
                rintro w15 ⟨⟨dq, osq⟩, rfl⟩
                have B15 := Lib.hid (below_trans B9.out B9.out.size (below_regrown w9 dq osq))
                clear z0 z1 z2 z3 z4 z5 z6 v0 v1 v2 v3 v4 v5 v6 x0 x1 x2 x3 x4 x5 x6 x7 x8 CK
                cases E with
                | true =>
                  go_wp2
                  go_ret
                  exact ⟨rfl, below_trans B2.out B2.out.size (below_trans B8.out B8.out.size B15.out)⟩
                | false =>
                  have HN := Lib.hid (Hts.out rfl)
                  go_wp2
                  go_roundw
                  case measure => have := Hql.out; simp [intOf]; omega
                  case rel => exact ⟨q + 1, by go_num, Hql.out, HN.out, B15.out⟩
              · have hqe : q = k := by omega
                subst hqe
                have hqk : ¬ (q : Int) < (q : Int) := by omega
                have hk8 := K8.out.below hb K8.out.lt
                obtain ⟨z0, z1, z2, z3, z4, z5, z6, z7, z8, zf⟩ := blk9 hk8
                have HBn := Lib.hid (below_new wr (.cells #[.int .i64 i1, .int .i64 i2, .int .i64 i3, .int .i64 i4, .int .i64 i5, .int .i64 i6, .int .i64 i7, .slice kb nl2 kd, .slice mb nm2 md] 32))
                have HLit : Hid (OwnR 32 9 Lsa.cells (wr.alloc (.cells #[.int .i64 i1, .int .i64 i2, .int .i64 i3, .int .i64 i4, .int .i64 i5, .int .i64 i6, .int .i64 i7, .slice kb nl2 kd, .slice mb nm2 md] 32)) wr.heap.size (.slice (some ⟨wr.heap.size, 0, none⟩) 1 1) [⟨⟨i1, i2, i3, i4, i5, i6, i7⟩, kb, kd, lt, mb, md, mt⟩]) := Lib.hid (by
                  have h := own_lit (e := 32) (C := 9) (cells := Lsa.cells) (fun _ => rfl) wr ⟨⟨i1, i2, i3, i4, i5, i6, i7⟩, kb, kd, lt, mb, md, mt⟩
                  unfold Lsa.cells at h
                  simp only [Hn2.out.1, Hn2.out.2] at h
                  exact h)
                have Bq := Lib.hid (below_trans B8.out B8.out.size hb)
                have HM := Lib.hid (show RowsAt 9 Lsa.cells (wr.alloc (.cells #[.int .i64 i1, .int .i64 i2, .int .i64 i3, .int .i64 i4, .int .i64 i5, .int .i64 i6, .int .i64 i7, .slice kb nl2 kd, .slice mb nm2 md] 32)) (wr.alloc (.cells #[.int .i64 i1, .int .i64 i2, .int .i64 i3, .int .i64 i4, .int .i64 i5, .int .i64 i6, .int .i64 i7, .slice kb nl2 kd, .slice mb nm2 md] 32)).heap.size A7 ((l.take q).reverse) from (OwnR.rows (C := 9) (cells := Lsa.cells) (fun _ => rfl) ((O8.out.below hb).below HBn.out)).2)
                have Hkm2 := Lib.hid (Hkm.out (fun y hy => hno y hy))
                clear hno hb hql hq hk8
                go_wp2_with (at_builtin; (refine app_rows (e := 32) Lsa.cells (fun _ => rfl) (by decide) (bytes := 104) (by decide) infoX rfl Try.underlying22 onesX (by rfl) _ _ (by rfl) wr.heap.size _ [⟨⟨i1, i2, i3, i4, i5, i6, i7⟩, kb, kd, lt, mb, md, mt⟩] (by rfl) HLit.out A7 c7 q ((l.take q).reverse) (by have := HPl.out; omega) (by rfl) HM.out (by have := HPl.out; have := Hlt.out; simp; omega) HBn.out.size ?_); intro v6 w6 hown6 hg6 hor6; have HO6 := Lib.hid (show OwnR 32 9 Lsa.cells w6 w2.heap.size v6 ((l.take (q + 1)).reverse) by rw [Hrv.out]; exact OwnR.lower hown6 Bq.out.size); have HB6 := Lib.hid (show Below w2.heap.size w2 w6 from (below_trans Bq.out Bq.out.size HBn.out).grown hg6 (Nat.le_trans Bq.out.size HBn.out.size) (fun m e => by have := (HLit.out.block m e).1; have := Bq.out.size; omega)); clear hown6 hg6 hor6)
                go_roundw
                case measure => have := Hlt.out; simp [intOf]; omega
                case rel => exact ⟨q + 1, by go_num, Hlt.out, HO6.out, Hkm2.out, HB6.out⟩
          · have hke : k = l.length := by omega
            subst hke
            have hkl : ¬ (l.length : Int) < (l.length : Int) := by omega
            have hg3 := K2.out.below hb K2.out.lt
            obtain ⟨w5, hw5⟩ : ∃ w5, wr.setCell ⟨g0, 0, none⟩ (.int .i64 60) = w5 := ⟨_, rfl⟩
            have hg5 : Blk w5 g0 32 #[.int .i64 60, .int .i64 y2, .int .i64 y3, .int .i64 y4, .int .i64 y5, .int .i64 y6, .int .i64 y7, .slice ka nl kc, .slice ma nm mc] := by rw [← hw5]; simpa using hg3.set_ 0 (.int .i64 60)
            have hg0w : g0 < w2.heap.size := K2.out.lt
            have HO5 := Lib.hid (show OwnR 32 9 Lsa.cells w5 w2.heap.size (.slice A7 l.length c7) l.reverse by rw [← hw5]; rw [List.take_length] at hown; exact hown.set_ hg0w _)
            have HK5 := Lib.hid hg5
            have HB5 := Lib.hid (show Below w.heap.size w w5 by rw [← hw5]; exact (below_trans B2.out B2.out.size hb).setCell (p := ⟨g0, 0, none⟩) (by have := Hg0.out; show w.heap.size ≤ g0; omega) _)
            have Hnd2 := Lib.hid (show ((l.map vX).map keyV).Nodup by rw [List.take_length] at hnd; rw [map_keys]; exact hnd)
            obtain ⟨kk, hkk⟩ : ∃ kk, a % (l.length + 1) = kk := ⟨_, rfl⟩
            have hrem : Int.tmod (a : Int) ((l.length : Int) + 1) = (kk : Int) := by
              rw [Int.tmod_eq_emod_of_nonneg (by omega), ← hkk]
              exact_mod_cast rfl
            have hkn : kk ≤ l.length := by rw [← hkk]; have := Nat.mod_lt a (show 0 < l.length + 1 by omega); omega
            have Hkn := Lib.hid hkn
            have hai : (a : Int) ≤ 255 := by omega
            obtain ⟨z0, z1, z2, z3, z4, z5, z6, z7, z8, zf⟩ := blk9 hg3
            have hne : ¬ ((l.length : Int) + 1 = 0) := by omega
            clear hlt hk hown hnd hb hg3 hg5 hkk Hown Hnd Hb HPl hPl
            have Hlc := Lib.hid (cap_le HO5.out)
            have hlc : (l.length : Int) ≤ (c7 : Int) := by have := Hlc.out; omega
            have hkc : (kk : Int) ≤ (c7 : Int) := by omega
            have hkl2 : (kk : Int) ≤ (l.length : Int) := by omega
            have HG := Lib.hid (show (Lsa.cells (⟨⟨60, y2, y3, y4, y5, y6, y7⟩, ka, kc, ls, ma, mc, ms⟩ : Lsa)).toArray = #[.int .i64 60, .int .i64 y2, .int .i64 y3, .int .i64 y4, .int .i64 y5, .int .i64 y6, .int .i64 y7, .slice ka nl kc, .slice ma nm mc] by unfold Lsa.cells; simp only; rw [Hnl.out, Hnm.out])
            obtain ⟨Ed0, hEd0⟩ : ∃ E, edgesV (l.map vX) = E := ⟨_, rfl⟩
            obtain ⟨Lf0, hLf0⟩ : ∃ E, leavesV (l.map vX) = E := ⟨_, rfl⟩
            have HEl := Lib.hid (show Ed0.length ≤ 2000 by rw [← hEd0]; exact edges_lenO _)
            have HLfl := Lib.hid (show Lf0.length ≤ 100 by rw [← hLf0]; exact leaves_lenO _)
            have hos := order_same Hnd2.out kk (g := vX ⟨⟨60, y2, y3, y4, y5, y6, y7⟩, ka, kc, ls, ma, mc, ms⟩) (by simp [cntV, vX])
            have hown2 : (((([] ++ l.reverse.take kk) ++ [(⟨⟨60, y2, y3, y4, y5, y6, y7⟩, ka, kc, ls, ma, mc, ms⟩ : Lsa)]) ++ l.reverse.drop kk).map vX) = (l.map vX).reverse.take kk ++ vX ⟨⟨60, y2, y3, y4, y5, y6, y7⟩, ka, kc, ls, ma, mc, ms⟩ :: (l.map vX).reverse.drop kk := by
              rw [List.nil_append, List.map_append, List.map_append, List.map_singleton, List.append_assoc, List.map_take, List.map_drop, List.map_reverse]
              rfl
            rw [← hown2, hEd0, hLf0] at hos
            have Hos := Lib.hid hos
            have HEd0 := Lib.hid hEd0
            have HLf0 := Lib.hid hLf0
            have hmemO : ∀ z ∈ ((([] ++ l.reverse.take kk) ++ [(⟨⟨60, y2, y3, y4, y5, y6, y7⟩, ka, kc, ls, ma, mc, ms⟩ : Lsa)]) ++ l.reverse.drop kk), z ∈ l ∨ z = ⟨⟨60, y2, y3, y4, y5, y6, y7⟩, ka, kc, ls, ma, mc, ms⟩ := fun z hz => by
              rw [List.nil_append] at hz
              rcases List.mem_append.1 hz with hz | hz
              · rcases List.mem_append.1 hz with hz | hz
                · exact .inl (List.mem_reverse.1 (List.mem_of_mem_take hz))
                · exact .inr (List.mem_singleton.1 hz)
              · exact .inl (List.mem_reverse.1 (List.mem_of_mem_drop hz))
            have hlenO : ((([] ++ l.reverse.take kk) ++ [(⟨⟨60, y2, y3, y4, y5, y6, y7⟩, ka, kc, ls, ma, mc, ms⟩ : Lsa)]) ++ l.reverse.drop kk).length ≤ 60 := by
              rw [List.nil_append, List.length_append, List.length_append, List.length_take, List.length_drop, List.length_reverse, List.length_singleton]
              omega
            have hlsG : ls.length ≤ 1000 ∧ ms.length ≤ 1000 := by have := Hnl.out; have := Hnm.out; omega
            have HTail := Lib.hid (show ∀ V A5 c5, OwnR 32 9 Lsa.cells V w5.heap.size (.slice A5 ((([] ++ l.reverse.take kk) ++ [(⟨⟨60, y2, y3, y4, y5, y6, y7⟩, ka, kc, ls, ma, mc, ms⟩ : Lsa)]) ++ l.reverse.drop kk).length c5) ((([] ++ l.reverse.take kk) ++ [(⟨⟨60, y2, y3, y4, y5, y6, y7⟩, ka, kc, ls, ma, mc, ms⟩ : Lsa)]) ++ l.reverse.drop kk) → Below w5.heap.size w5 V →
                (Calls Try.prog 52 #[.slice A l.length cap] V fun r w' => (∃ v, r = .returned v ∧ OwnR 78 5 Ed.cells w' V.heap.size v Ed0) ∧ Below V.heap.size V w') ∧
                (∀ W, Below V.heap.size V W → Calls Try.prog 52 #[.slice A5 ((([] ++ l.reverse.take kk) ++ [(⟨⟨60, y2, y3, y4, y5, y6, y7⟩, ka, kc, ls, ma, mc, ms⟩ : Lsa)]) ++ l.reverse.drop kk).length c5] W fun r w' => (∃ v, r = .returned v ∧ OwnR 78 5 Ed.cells w' W.heap.size v Ed0) ∧ Below W.heap.size W w') ∧
                (∀ W, Below V.heap.size V W → Calls Try.prog 55 #[.slice A l.length cap] W fun r w' => (∃ v, r = .returned v ∧ OwnR 141 3 Lf.cells w' W.heap.size v Lf0) ∧ Below W.heap.size W w') ∧
                (∀ W, Below V.heap.size V W → Calls Try.prog 55 #[.slice A5 ((([] ++ l.reverse.take kk) ++ [(⟨⟨60, y2, y3, y4, y5, y6, y7⟩, ka, kc, ls, ma, mc, ms⟩ : Lsa)]) ++ l.reverse.drop kk).length c5] W fun r w' => (∃ v, r = .returned v ∧ OwnR 141 3 Lf.cells w' W.heap.size v Lf0) ∧ Below W.heap.size W w') ∧ Below w.heap.size w V from fun V A5 c5 ho hV => by
              have hwV := below_trans HB5.out HB5.out.size hV
              have hin : ∀ W, Below V.heap.size V W → Below w.heap.size w W := fun W hW => below_trans hwV hwV.size hW
              have hrl : ∀ W, Below V.heap.size V W → RowsAt 9 Lsa.cells W W.heap.size A l := fun W hW => (HL.out.rows.below (hin W hW)).more (hin W hW).size
              have hel : ∀ W, Below V.heap.size V W → ∀ x ∈ l, RowsAt 4 Lnk.cells W W.heap.size x.ka x.links ∧ RowsAt 1 icell W W.heap.size x.ma x.members := fun W hW x hx => ⟨((HL.out.each x hx).links.below (hin W hW)).more (hin W hW).size, ((HL.out.each x hx).members.below (hin W hW)).more (hin W hW).size⟩
              have hro : ∀ W, Below V.heap.size V W → RowsAt 9 Lsa.cells W W.heap.size A5 ((([] ++ l.reverse.take kk) ++ [(⟨⟨60, y2, y3, y4, y5, y6, y7⟩, ka, kc, ls, ma, mc, ms⟩ : Lsa)]) ++ l.reverse.drop kk) := fun W hW => (OwnR.rows (C := 9) (cells := Lsa.cells) (fun _ => rfl) (ho.below hW)).2
              have heo : ∀ W, Below V.heap.size V W → ∀ x ∈ ((([] ++ l.reverse.take kk) ++ [(⟨⟨60, y2, y3, y4, y5, y6, y7⟩, ka, kc, ls, ma, mc, ms⟩ : Lsa)]) ++ l.reverse.drop kk), RowsAt 4 Lnk.cells W W.heap.size x.ka x.links ∧ RowsAt 1 icell W W.heap.size x.ma x.members := fun W hW x hx => by
                rcases hmemO x hx with h | h
                · exact hel W hW x h
                · subst h
                  exact ⟨(Hxl.out.below (hin W hW)).more (hin W hW).size, (Hxm.out.below (hin W hW)).more (hin W hW).size⟩
              have hleno : ∀ x ∈ ((([] ++ l.reverse.take kk) ++ [(⟨⟨60, y2, y3, y4, y5, y6, y7⟩, ka, kc, ls, ma, mc, ms⟩ : Lsa)]) ++ l.reverse.drop kk), x.links.length ≤ 1000 ∧ x.members.length ≤ 1000 := fun x hx => by
                rcases hmemO x hx with h | h
                · exact Hlens.out x h
                · subst h
                  exact hlsG
              refine ⟨?_, fun W hW => ?_, fun W hW => ?_, fun W hW => ?_, hwV⟩
              · rw [← HEd0.out]; exact Edges_any A cap l V (hrl V (Below.refl _ _)) (hel V (Below.refl _ _)) Hlens.out (by omega) l.length rfl
              · rw [← Hos.out.1]; exact Edges_any A5 c5 _ W (hro W hW) (heo W hW) hleno hlenO _ rfl
              · rw [← HLf0.out]; exact Leaves_any A cap l W (hrl W hW) (hel W hW) Hlens.out (by omega) l.length rfl
              · rw [← Hos.out.2]; exact Leaves_any A5 c5 _ W (hro W hW) (heo W hW) hleno hlenO _ rfl)
            clear hos hown2 hEd0 hLf0 hmemO hlenO hlsG
            go_wp2_with fail
            refine wp_region_F (F := fun W => Below w5.heap.size w5 W) (n := 12) (m := 13) (s := #[false, false, false, false, false, false, false, false, false, false, false, false, false]) (by kernel_rfl) (by kernel_rfl) (by kernel_rfl) ?_
            intro wd hwd
            have hF : Below w5.heap.size w5 wd := by rw [hwd.out]; exact (Below.refl _ _).drew
            clear hwd z0 z1 z2 z3 z4 z5 z6 z7 z8 zf
            refine F_take (i := 1) (d := some 66) (by kernel_rfl) (by kernel_rfl) (by decide) (s' := #[false, true, false, false, false, false, false, false, false, false, false, false, false]) (by kernel_rfl) rfl rfl (by kernel_rfl) (by kernel_rfl) (by kernel_rfl) (fun _ _ _ h => h) (Or.inl ⟨by kernel_rfl, fun W hW => by obtain ⟨g0c, g1c, g2c, g3c, g4c, g5c, g6c, g7c, g8c, -⟩ := blk9 (HK5.out.below hW HK5.out.lt); go_simp; try with_reducible rfl⟩) hF ?_
            go_frame
            refine F_take (i := 2) (d := some 67) (by kernel_rfl) (by kernel_rfl) (by decide) (s' := #[false, true, true, false, false, false, false, false, false, false, false, false, false]) (by kernel_rfl) rfl rfl (by kernel_rfl) (by kernel_rfl) (by kernel_rfl) (fun _ _ _ h => h) (Or.inl ⟨by kernel_rfl, fun W hW => by obtain ⟨g0c, g1c, g2c, g3c, g4c, g5c, g6c, g7c, g8c, -⟩ := blk9 (HK5.out.below hW HK5.out.lt); go_simp; try with_reducible rfl⟩) hF ?_
            go_frame
            refine F_take (i := 8) (d := some 73) (by kernel_rfl) (by kernel_rfl) (by decide) (s' := #[false, true, true, false, false, false, false, false, true, false, false, false, false]) (by kernel_rfl) rfl rfl (by kernel_rfl) (by kernel_rfl) (by kernel_rfl) (fun _ _ _ h => h) (Or.inl ⟨by kernel_rfl, fun W hW => by obtain ⟨g0c, g1c, g2c, g3c, g4c, g5c, g6c, g7c, g8c, -⟩ := blk9 (HK5.out.below hW HK5.out.lt); go_simp; try with_reducible rfl⟩) hF ?_
            go_frame
            refine F_take (i := 9) (d := some 74) (by kernel_rfl) (by kernel_rfl) (by decide) (s' := #[false, true, true, false, false, false, false, false, true, true, false, false, false]) (by kernel_rfl) rfl rfl (by kernel_rfl) (by kernel_rfl) (by kernel_rfl) (fun _ _ _ h => h) (Or.inl ⟨by kernel_rfl, fun W hW => by obtain ⟨g0c, g1c, g2c, g3c, g4c, g5c, g6c, g7c, g8c, -⟩ := blk9 (HK5.out.below hW HK5.out.lt); go_simp; try with_reducible rfl⟩) hF ?_
            go_frame
            refine F_take (i := 3) (d := some 68) (by kernel_rfl) (by kernel_rfl) (by decide) (s' := #[false, true, true, true, false, false, false, false, true, true, false, false, false]) (by kernel_rfl) rfl rfl (by kernel_rfl) (by kernel_rfl) (by kernel_rfl) (fun _ _ _ h => h) (Or.inl ⟨by kernel_rfl, fun W hW => by obtain ⟨g0c, g1c, g2c, g3c, g4c, g5c, g6c, g7c, g8c, -⟩ := blk9 (HK5.out.below hW HK5.out.lt); go_simp; try with_reducible rfl⟩) hF ?_
            go_frame
            refine F_take (i := 5) (d := some 70) (by kernel_rfl) (by kernel_rfl) (by decide) (s' := #[false, true, true, true, false, true, false, false, true, true, false, false, false]) (by kernel_rfl) rfl rfl (by kernel_rfl) (by kernel_rfl) (by kernel_rfl) (fun _ _ _ h => h) (Or.inl ⟨by kernel_rfl, fun W hW => by obtain ⟨g0c, g1c, g2c, g3c, g4c, g5c, g6c, g7c, g8c, -⟩ := blk9 (HK5.out.below hW HK5.out.lt); go_simp; try with_reducible rfl⟩) hF ?_
            go_frame
            refine F_take (i := 10) (d := some 75) (by kernel_rfl) (by kernel_rfl) (by decide) (s' := #[false, true, true, true, false, true, false, false, true, true, true, false, false]) (by kernel_rfl) rfl rfl (by kernel_rfl) (by kernel_rfl) (by kernel_rfl) (fun _ _ _ h => h) (Or.inl ⟨by kernel_rfl, fun W hW => by obtain ⟨g0c, g1c, g2c, g3c, g4c, g5c, g6c, g7c, g8c, -⟩ := blk9 (HK5.out.below hW HK5.out.lt); go_simp; try with_reducible rfl⟩) hF ?_
            go_frame
            refine F_two (i := 0) (si := #[true, true, true, true, false, true, false, false, true, true, true, false, false]) (j := 6) (sj := #[false, true, true, true, false, true, true, false, true, true, true, false, false]) (by kernel_rfl) (by kernel_rfl) (by kernel_rfl) ?_ ?_
            · skip
              obtain ⟨va0, hva0⟩ : ∃ v, wd.alloc (.cells #[] 32) = v := ⟨_, rfl⟩
              have hb := below_new wd (.cells #[] 32)
              rw [hva0] at hb
              have oE : OwnR 32 9 Lsa.cells va0 w5.heap.size (.slice (some ⟨wd.heap.size, 0, none⟩) 0 0) ([] : List Lsa) := by rw [← hva0]; exact (own_empty wd).lower hF.size
              obtain ⟨e0, he0⟩ : ∃ e, wd.heap.size = e := ⟨_, rfl⟩
              rw [he0] at oE
              have hF := below_trans hF hF.size hb
              refine wpOp_valueL (i := 0) (d := some 65) (w' := va0) (v := .slice (some ⟨e0, 0, none⟩) 0 0) rfl rfl (by kernel_rfl) (by go_simp) ⟨fun _ => hF, ?_⟩
              go_frame
              clear hb hva0 he0
              refine F_two (i := 4) (si := #[true, true, true, true, true, true, false, false, true, true, true, false, false]) (j := 6) (sj := #[true, true, true, true, false, true, true, false, true, true, true, false, false]) (by kernel_rfl) (by kernel_rfl) (by kernel_rfl) ?_ ?_
              · skip
                obtain ⟨v4, vb0, hrun, o4, hg4, hor4⟩ := app_rows_run (e := 32) (sl := 22) Lsa.cells (fun _ => rfl) (by decide) (bytes := 104) (by decide) infoX rfl Try.underlying22 onesX (w := va0) 22 w5.heap.size _ [] oE A7 c7 kk (l.reverse.take kk) (by rw [List.length_take, List.length_reverse]; have := Hkn.out; omega) (rows_take (OwnR.rows (C := 9) (cells := Lsa.cells) (fun _ => rfl) (HO5.out.below hF)).2 kk) (by rw [List.length_take, List.length_reverse]; simp only [List.length_nil]; omega) hF.size
                have hF := hF.grown hg4 hF.size (fun m e => (oE.block m e).1)
                refine wpOp_appendL (i := 4) (d := some 69) (t := 22) rfl rfl rfl (by kernel_rfl) rfl (by rfl) (by rfl) hrun ⟨fun _ => hF, ?_⟩
                go_frame
                clear hrun hg4 hor4 oE
                refine F_one (i := 6) (s' := #[true, true, true, true, true, true, true, false, true, true, true, false, false]) (by kernel_rfl) (by kernel_rfl) ?_
                obtain ⟨vc0, hvc0⟩ : ∃ v, vb0.alloc (.cells #[.int .i64 60, .int .i64 y2, .int .i64 y3, .int .i64 y4, .int .i64 y5, .int .i64 y6, .int .i64 y7, .slice ka nl kc, .slice ma nm mc] 32) = v := ⟨_, rfl⟩
                have hb := below_new vb0 (.cells #[.int .i64 60, .int .i64 y2, .int .i64 y3, .int .i64 y4, .int .i64 y5, .int .i64 y6, .int .i64 y7, .slice ka nl kc, .slice ma nm mc] 32)
                rw [hvc0] at hb
                have oL := own_lit (e := 32) (C := 9) (cells := Lsa.cells) (fun _ => rfl) vb0 (⟨⟨60, y2, y3, y4, y5, y6, y7⟩, ka, kc, ls, ma, mc, ms⟩ : Lsa)
                rw [HG.out, hvc0] at oL
                obtain ⟨gl, hgl⟩ : ∃ e, vb0.heap.size = e := ⟨_, rfl⟩
                rw [hgl] at oL
                have hn4 : ∀ m, v4.ownBlock = some m → gl ≠ m := fun m e => by have := (o4.block m e).2; omega
                have o4 := o4.below hb
                have hF := below_trans hF hF.size hb
                refine wpOp_valueL (i := 6) (d := some 71) (w' := vc0) (v := .slice (some ⟨gl, 0, none⟩) 1 1) rfl rfl (by kernel_rfl) (by go_simp) ⟨fun _ => hF, ?_⟩
                go_frame
                clear hb hvc0 hgl
                refine F_one (i := 7) (s' := #[true, true, true, true, true, true, true, true, true, true, true, false, false]) (by kernel_rfl) (by kernel_rfl) ?_
                obtain ⟨v7, vd0, hrun, o7, hg7, hor7⟩ := app_rows_run (e := 32) (sl := 22) Lsa.cells (fun _ => rfl) (by decide) (bytes := 104) (by decide) infoX rfl Try.underlying22 onesX (w := vc0) 22 w5.heap.size v4 _ o4 (some ⟨gl, 0, none⟩) 1 1 [(⟨⟨60, y2, y3, y4, y5, y6, y7⟩, ka, kc, ls, ma, mc, ms⟩ : Lsa)] rfl (OwnR.rows (C := 9) (cells := Lsa.cells) (fun _ => rfl) oL).2 (by rw [List.nil_append, List.length_take, List.length_reverse]; simp only [List.length_singleton]; omega) hF.size
                have hF := hF.grown hg7 hF.size (fun m e => (o4.block m e).1)
                refine wpOp_appendL (i := 7) (d := some 72) (t := 22) rfl rfl rfl (by kernel_rfl) rfl (by rfl) (by rfl) hrun ⟨fun _ => hF, ?_⟩
                go_frame
                clear hrun hg7 hor7 o4 oL
                refine F_one (i := 11) (s' := #[true, true, true, true, true, true, true, true, true, true, true, true, false]) (by kernel_rfl) (by kernel_rfl) ?_
                obtain ⟨v11, ve0, hrun, o11, hg11, hor11⟩ := app_rows_run (e := 32) (sl := 22) Lsa.cells (fun _ => rfl) (by decide) (bytes := 104) (by decide) infoX rfl Try.underlying22 onesX (w := vd0) 22 w5.heap.size v7 _ o7 (if c7 = kk then A7 else A7.map fun x => x.add (kk * 9)) (c7 - kk) (l.length - kk) (l.reverse.drop kk) (by rw [List.length_drop, List.length_reverse]) (rows_lo (OwnR.rows (C := 9) (cells := Lsa.cells) (fun _ => rfl) (HO5.out.below hF)).2 kk (by rw [List.length_reverse]) Hlc.out) (by rw [List.nil_append, List.length_append, List.length_take, List.length_drop, List.length_reverse]; simp only [List.length_singleton]; omega) hF.size
                have hF := hF.grown hg11 hF.size (fun m e => (o7.block m e).1)
                refine wpOp_appendL (i := 11) (d := some 76) (t := 22) rfl rfl rfl (by kernel_rfl) rfl (by rfl) (by rfl) hrun ⟨fun _ => hF, ?_⟩
                go_frame
                obtain ⟨A5, c5, hv5⟩ := o11.shape
                subst hv5
                clear hrun hg11 hor11 o7
                refine F_one (i := 12) (s' := #[true, true, true, true, true, true, true, true, true, true, true, true, true]) (by kernel_rfl) (by kernel_rfl) ?_
                refine wpOp_valueL (i := 12) (d := some 7) (w' := ve0) (v := .slice A5 ((([] ++ l.reverse.take kk) ++ [(⟨⟨60, y2, y3, y4, y5, y6, y7⟩, ka, kc, ls, ma, mc, ms⟩ : Lsa)]) ++ l.reverse.drop kk).length c5) rfl rfl (by kernel_rfl) (by go_simp) ⟨fun h => absurd h (by decide), ?_⟩
                go_frame
                refine F_done (by kernel_rfl) ?_ _
                have HFin := Lib.hid (HTail.out ve0 A5 c5 o11 hF)
                clear o11 hF
                obtain ⟨nO, hnO⟩ : ∃ nO, ((([] ++ l.reverse.take kk) ++ [(⟨⟨60, y2, y3, y4, y5, y6, y7⟩, ka, kc, ls, ma, mc, ms⟩ : Lsa)]) ++ l.reverse.drop kk).length = nO := ⟨_, rfl⟩
                rw [hnO] at HFin
                rw [hnO]
                clear hnO
                go_wp2_with (first
                  | (go_at_call 52; (with_reducible refine Calls.mono HFin.out.1 ?_); rintro r wa ⟨⟨va, rfl, hxa⟩, hba⟩; obtain ⟨Aa, ca, hva⟩ := hxa.shape; subst hva; have HXa := Lib.hid hxa; have HE2 := Lib.hid (HFin.out.2.1 wa hba); have HBa := Lib.hid hba; clear hxa hba)
                  | (go_at_call 52; (with_reducible refine Calls.mono HE2.out ?_); rintro r wb ⟨⟨vb, rfl, hxb⟩, hbb⟩; obtain ⟨Ab, cb, hvb⟩ := hxb.shape; subst hvb; have HBb := Lib.hid (below_trans HBa.out HBa.out.size hbb); have HS := Lib.hid (Same20s Aa Ab ca cb Ed0 wb wb.heap.size wb.heap.size (OwnR.rows (C := 5) (cells := Ed.cells) (fun _ => rfl) (HXa.out.below hbb)).2 (OwnR.rows (C := 5) (cells := Ed.cells) (fun _ => rfl) hxb).2 (Nat.le_refl _) (Nat.le_refl _) (by have := HEl.out; omega) Ed0.length Ed0.length rfl rfl); clear hxb hbb)
                  | (go_at_call 50; (with_reducible refine Calls.mono HS.out ?_); rintro r wc ⟨rfl, hbc⟩; have HBc := Lib.hid (below_trans HBb.out HBb.out.size hbc); have HF3 := Lib.hid (HFin.out.2.2.1 wc HBc.out); clear hbc)
                  | (go_at_call 55; (with_reducible refine Calls.mono HF3.out ?_); rintro r we ⟨⟨ve, rfl, hxe⟩, hbe⟩; obtain ⟨Ae, ce, hve⟩ := hxe.shape; subst hve; have HBe := Lib.hid (below_trans HBc.out HBc.out.size hbe); have HXe := Lib.hid hxe; have HF4 := Lib.hid (HFin.out.2.2.2.1 we HBe.out); clear hxe hbe)
                  | (go_at_call 55; (with_reducible refine Calls.mono HF4.out ?_); rintro r wf ⟨⟨vf, rfl, hxf⟩, hbf⟩; obtain ⟨Af, cf, hvf⟩ := hxf.shape; subst hvf; have HBf := Lib.hid (below_trans HBe.out HBe.out.size hbf); have HS2 := Lib.hid (SameF20s Ae Af ce cf Lf0 wf wf.heap.size wf.heap.size (OwnR.rows (C := 3) (cells := Lf.cells) (fun _ => rfl) (HXe.out.below hbf)).2 (OwnR.rows (C := 3) (cells := Lf.cells) (fun _ => rfl) hxf).2 (Nat.le_refl _) (Nat.le_refl _) (by have := HLfl.out; omega) Lf0.length Lf0.length rfl rfl); clear hxf hbf)
                  | (go_at_call 54; (with_reducible refine Calls.mono HS2.out ?_); rintro r wg ⟨rfl, hbg⟩; have HBg := Lib.hid (below_trans HFin.out.2.2.2.2 HFin.out.2.2.2.2.size (below_trans HBf.out HBf.out.size hbg)); clear hbg))
                all_goals
                  have HBz := HBg.out
                  rw [Hg0.out] at HBz
                  have HBy := Lib.hid HBz
                  clear HBz
                  go_ret
                  exact ⟨rfl, HBy.out⟩
              · skip
                obtain ⟨vb0, hvb0⟩ : ∃ v, va0.alloc (.cells #[.int .i64 60, .int .i64 y2, .int .i64 y3, .int .i64 y4, .int .i64 y5, .int .i64 y6, .int .i64 y7, .slice ka nl kc, .slice ma nm mc] 32) = v := ⟨_, rfl⟩
                have hb := below_new va0 (.cells #[.int .i64 60, .int .i64 y2, .int .i64 y3, .int .i64 y4, .int .i64 y5, .int .i64 y6, .int .i64 y7, .slice ka nl kc, .slice ma nm mc] 32)
                rw [hvb0] at hb
                have oL := own_lit (e := 32) (C := 9) (cells := Lsa.cells) (fun _ => rfl) va0 (⟨⟨60, y2, y3, y4, y5, y6, y7⟩, ka, kc, ls, ma, mc, ms⟩ : Lsa)
                rw [HG.out, hvb0] at oL
                obtain ⟨gl, hgl⟩ : ∃ e, va0.heap.size = e := ⟨_, rfl⟩
                rw [hgl] at oL
                have hne : gl ≠ e0 := by have := (oE.block e0 rfl).2; omega
                have oE := oE.below hb
                have hF := below_trans hF hF.size hb
                refine wpOp_valueL (i := 6) (d := some 71) (w' := vb0) (v := .slice (some ⟨gl, 0, none⟩) 1 1) rfl rfl (by kernel_rfl) (by go_simp) ⟨fun _ => hF, ?_⟩
                go_frame
                clear hb hvb0 hgl
                refine F_one (i := 4) (s' := #[true, true, true, true, true, true, true, false, true, true, true, false, false]) (by kernel_rfl) (by kernel_rfl) ?_
                obtain ⟨v4, vc0, hrun, o4, hg4, hor4⟩ := app_rows_run (e := 32) (sl := 22) Lsa.cells (fun _ => rfl) (by decide) (bytes := 104) (by decide) infoX rfl Try.underlying22 onesX (w := vb0) 22 w5.heap.size _ [] oE A7 c7 kk (l.reverse.take kk) (by rw [List.length_take, List.length_reverse]; have := Hkn.out; omega) (rows_take (OwnR.rows (C := 9) (cells := Lsa.cells) (fun _ => rfl) (HO5.out.below hF)).2 kk) (by rw [List.length_take, List.length_reverse]; simp only [List.length_nil]; omega) hF.size
                have hn4 : ∀ m, v4.ownBlock = some m → gl ≠ m := fun m e => by
                  rcases hor4 with h | h
                  · rw [h] at e; injection e with e; rw [← e]; exact hne
                  · rw [h] at e; injection e with e; have := (oL.block gl rfl).2; omega
                have oL := oL.kept hg4 (.inr (fun e => hne (by injection e)))
                have hF := hF.grown hg4 hF.size (fun m e => (oE.block m e).1)
                refine wpOp_appendL (i := 4) (d := some 69) (t := 22) rfl rfl rfl (by kernel_rfl) rfl (by rfl) (by rfl) hrun ⟨fun _ => hF, ?_⟩
                go_frame
                clear hrun hg4 hor4 oE
                refine F_one (i := 7) (s' := #[true, true, true, true, true, true, true, true, true, true, true, false, false]) (by kernel_rfl) (by kernel_rfl) ?_
                obtain ⟨v7, vd0, hrun, o7, hg7, hor7⟩ := app_rows_run (e := 32) (sl := 22) Lsa.cells (fun _ => rfl) (by decide) (bytes := 104) (by decide) infoX rfl Try.underlying22 onesX (w := vc0) 22 w5.heap.size v4 _ o4 (some ⟨gl, 0, none⟩) 1 1 [(⟨⟨60, y2, y3, y4, y5, y6, y7⟩, ka, kc, ls, ma, mc, ms⟩ : Lsa)] rfl (OwnR.rows (C := 9) (cells := Lsa.cells) (fun _ => rfl) oL).2 (by rw [List.nil_append, List.length_take, List.length_reverse]; simp only [List.length_singleton]; omega) hF.size
                have hF := hF.grown hg7 hF.size (fun m e => (o4.block m e).1)
                refine wpOp_appendL (i := 7) (d := some 72) (t := 22) rfl rfl rfl (by kernel_rfl) rfl (by rfl) (by rfl) hrun ⟨fun _ => hF, ?_⟩
                go_frame
                clear hrun hg7 hor7 o4 oL
                refine F_one (i := 11) (s' := #[true, true, true, true, true, true, true, true, true, true, true, true, false]) (by kernel_rfl) (by kernel_rfl) ?_
                obtain ⟨v11, ve0, hrun, o11, hg11, hor11⟩ := app_rows_run (e := 32) (sl := 22) Lsa.cells (fun _ => rfl) (by decide) (bytes := 104) (by decide) infoX rfl Try.underlying22 onesX (w := vd0) 22 w5.heap.size v7 _ o7 (if c7 = kk then A7 else A7.map fun x => x.add (kk * 9)) (c7 - kk) (l.length - kk) (l.reverse.drop kk) (by rw [List.length_drop, List.length_reverse]) (rows_lo (OwnR.rows (C := 9) (cells := Lsa.cells) (fun _ => rfl) (HO5.out.below hF)).2 kk (by rw [List.length_reverse]) Hlc.out) (by rw [List.nil_append, List.length_append, List.length_take, List.length_drop, List.length_reverse]; simp only [List.length_singleton]; omega) hF.size
                have hF := hF.grown hg11 hF.size (fun m e => (o7.block m e).1)
                refine wpOp_appendL (i := 11) (d := some 76) (t := 22) rfl rfl rfl (by kernel_rfl) rfl (by rfl) (by rfl) hrun ⟨fun _ => hF, ?_⟩
                go_frame
                obtain ⟨A5, c5, hv5⟩ := o11.shape
                subst hv5
                clear hrun hg11 hor11 o7
                refine F_one (i := 12) (s' := #[true, true, true, true, true, true, true, true, true, true, true, true, true]) (by kernel_rfl) (by kernel_rfl) ?_
                refine wpOp_valueL (i := 12) (d := some 7) (w' := ve0) (v := .slice A5 ((([] ++ l.reverse.take kk) ++ [(⟨⟨60, y2, y3, y4, y5, y6, y7⟩, ka, kc, ls, ma, mc, ms⟩ : Lsa)]) ++ l.reverse.drop kk).length c5) rfl rfl (by kernel_rfl) (by go_simp) ⟨fun h => absurd h (by decide), ?_⟩
                go_frame
                refine F_done (by kernel_rfl) ?_ _
                have HFin := Lib.hid (HTail.out ve0 A5 c5 o11 hF)
                clear o11 hF
                obtain ⟨nO, hnO⟩ : ∃ nO, ((([] ++ l.reverse.take kk) ++ [(⟨⟨60, y2, y3, y4, y5, y6, y7⟩, ka, kc, ls, ma, mc, ms⟩ : Lsa)]) ++ l.reverse.drop kk).length = nO := ⟨_, rfl⟩
                rw [hnO] at HFin
                rw [hnO]
                clear hnO
                go_wp2_with (first
                  | (go_at_call 52; (with_reducible refine Calls.mono HFin.out.1 ?_); rintro r wa ⟨⟨va, rfl, hxa⟩, hba⟩; obtain ⟨Aa, ca, hva⟩ := hxa.shape; subst hva; have HXa := Lib.hid hxa; have HE2 := Lib.hid (HFin.out.2.1 wa hba); have HBa := Lib.hid hba; clear hxa hba)
                  | (go_at_call 52; (with_reducible refine Calls.mono HE2.out ?_); rintro r wb ⟨⟨vb, rfl, hxb⟩, hbb⟩; obtain ⟨Ab, cb, hvb⟩ := hxb.shape; subst hvb; have HBb := Lib.hid (below_trans HBa.out HBa.out.size hbb); have HS := Lib.hid (Same20s Aa Ab ca cb Ed0 wb wb.heap.size wb.heap.size (OwnR.rows (C := 5) (cells := Ed.cells) (fun _ => rfl) (HXa.out.below hbb)).2 (OwnR.rows (C := 5) (cells := Ed.cells) (fun _ => rfl) hxb).2 (Nat.le_refl _) (Nat.le_refl _) (by have := HEl.out; omega) Ed0.length Ed0.length rfl rfl); clear hxb hbb)
                  | (go_at_call 50; (with_reducible refine Calls.mono HS.out ?_); rintro r wc ⟨rfl, hbc⟩; have HBc := Lib.hid (below_trans HBb.out HBb.out.size hbc); have HF3 := Lib.hid (HFin.out.2.2.1 wc HBc.out); clear hbc)
                  | (go_at_call 55; (with_reducible refine Calls.mono HF3.out ?_); rintro r we ⟨⟨ve, rfl, hxe⟩, hbe⟩; obtain ⟨Ae, ce, hve⟩ := hxe.shape; subst hve; have HBe := Lib.hid (below_trans HBc.out HBc.out.size hbe); have HXe := Lib.hid hxe; have HF4 := Lib.hid (HFin.out.2.2.2.1 we HBe.out); clear hxe hbe)
                  | (go_at_call 55; (with_reducible refine Calls.mono HF4.out ?_); rintro r wf ⟨⟨vf, rfl, hxf⟩, hbf⟩; obtain ⟨Af, cf, hvf⟩ := hxf.shape; subst hvf; have HBf := Lib.hid (below_trans HBe.out HBe.out.size hbf); have HS2 := Lib.hid (SameF20s Ae Af ce cf Lf0 wf wf.heap.size wf.heap.size (OwnR.rows (C := 3) (cells := Lf.cells) (fun _ => rfl) (HXe.out.below hbf)).2 (OwnR.rows (C := 3) (cells := Lf.cells) (fun _ => rfl) hxf).2 (Nat.le_refl _) (Nat.le_refl _) (by have := HLfl.out; omega) Lf0.length Lf0.length rfl rfl); clear hxf hbf)
                  | (go_at_call 54; (with_reducible refine Calls.mono HS2.out ?_); rintro r wg ⟨rfl, hbg⟩; have HBg := Lib.hid (below_trans HFin.out.2.2.2.2 HFin.out.2.2.2.2.size (below_trans HBf.out HBf.out.size hbg)); clear hbg))
                all_goals
                  have HBz := HBg.out
                  rw [Hg0.out] at HBz
                  have HBy := Lib.hid HBz
                  clear HBz
                  go_ret
                  exact ⟨rfl, HBy.out⟩
            · skip
              obtain ⟨va0, hva0⟩ : ∃ v, wd.alloc (.cells #[.int .i64 60, .int .i64 y2, .int .i64 y3, .int .i64 y4, .int .i64 y5, .int .i64 y6, .int .i64 y7, .slice ka nl kc, .slice ma nm mc] 32) = v := ⟨_, rfl⟩
              have hb := below_new wd (.cells #[.int .i64 60, .int .i64 y2, .int .i64 y3, .int .i64 y4, .int .i64 y5, .int .i64 y6, .int .i64 y7, .slice ka nl kc, .slice ma nm mc] 32)
              rw [hva0] at hb
              have oL := own_lit (e := 32) (C := 9) (cells := Lsa.cells) (fun _ => rfl) wd (⟨⟨60, y2, y3, y4, y5, y6, y7⟩, ka, kc, ls, ma, mc, ms⟩ : Lsa)
              rw [HG.out, hva0] at oL
              obtain ⟨gl, hgl⟩ : ∃ e, wd.heap.size = e := ⟨_, rfl⟩
              rw [hgl] at oL
              have hF := below_trans hF hF.size hb
              refine wpOp_valueL (i := 6) (d := some 71) (w' := va0) (v := .slice (some ⟨gl, 0, none⟩) 1 1) rfl rfl (by kernel_rfl) (by go_simp) ⟨fun _ => hF, ?_⟩
              go_frame
              clear hb hva0 hgl
              refine F_one (i := 0) (s' := #[true, true, true, true, false, true, true, false, true, true, true, false, false]) (by kernel_rfl) (by kernel_rfl) ?_
              obtain ⟨vb0, hvb0⟩ : ∃ v, va0.alloc (.cells #[] 32) = v := ⟨_, rfl⟩
              have hb := below_new va0 (.cells #[] 32)
              rw [hvb0] at hb
              have oE : OwnR 32 9 Lsa.cells vb0 w5.heap.size (.slice (some ⟨va0.heap.size, 0, none⟩) 0 0) ([] : List Lsa) := by rw [← hvb0]; exact (own_empty va0).lower hF.size
              obtain ⟨e0, he0⟩ : ∃ e, va0.heap.size = e := ⟨_, rfl⟩
              rw [he0] at oE
              have hne : gl ≠ e0 := by have := (oL.block gl rfl).2; omega
              have oL := oL.below hb
              have hF := below_trans hF hF.size hb
              refine wpOp_valueL (i := 0) (d := some 65) (w' := vb0) (v := .slice (some ⟨e0, 0, none⟩) 0 0) rfl rfl (by kernel_rfl) (by go_simp) ⟨fun _ => hF, ?_⟩
              go_frame
              clear hb hvb0 he0
              refine F_one (i := 4) (s' := #[true, true, true, true, true, true, true, false, true, true, true, false, false]) (by kernel_rfl) (by kernel_rfl) ?_
              obtain ⟨v4, vc0, hrun, o4, hg4, hor4⟩ := app_rows_run (e := 32) (sl := 22) Lsa.cells (fun _ => rfl) (by decide) (bytes := 104) (by decide) infoX rfl Try.underlying22 onesX (w := vb0) 22 w5.heap.size _ [] oE A7 c7 kk (l.reverse.take kk) (by rw [List.length_take, List.length_reverse]; have := Hkn.out; omega) (rows_take (OwnR.rows (C := 9) (cells := Lsa.cells) (fun _ => rfl) (HO5.out.below hF)).2 kk) (by rw [List.length_take, List.length_reverse]; simp only [List.length_nil]; omega) hF.size
              have hn4 : ∀ m, v4.ownBlock = some m → gl ≠ m := fun m e => by
                rcases hor4 with h | h
                · rw [h] at e; injection e with e; rw [← e]; exact hne
                · rw [h] at e; injection e with e; have := (oL.block gl rfl).2; omega
              have oL := oL.kept hg4 (.inr (fun e => hne (by injection e)))
              have hF := hF.grown hg4 hF.size (fun m e => (oE.block m e).1)
              refine wpOp_appendL (i := 4) (d := some 69) (t := 22) rfl rfl rfl (by kernel_rfl) rfl (by rfl) (by rfl) hrun ⟨fun _ => hF, ?_⟩
              go_frame
              clear hrun hg4 hor4 oE
              refine F_one (i := 7) (s' := #[true, true, true, true, true, true, true, true, true, true, true, false, false]) (by kernel_rfl) (by kernel_rfl) ?_
              obtain ⟨v7, vd0, hrun, o7, hg7, hor7⟩ := app_rows_run (e := 32) (sl := 22) Lsa.cells (fun _ => rfl) (by decide) (bytes := 104) (by decide) infoX rfl Try.underlying22 onesX (w := vc0) 22 w5.heap.size v4 _ o4 (some ⟨gl, 0, none⟩) 1 1 [(⟨⟨60, y2, y3, y4, y5, y6, y7⟩, ka, kc, ls, ma, mc, ms⟩ : Lsa)] rfl (OwnR.rows (C := 9) (cells := Lsa.cells) (fun _ => rfl) oL).2 (by rw [List.nil_append, List.length_take, List.length_reverse]; simp only [List.length_singleton]; omega) hF.size
              have hF := hF.grown hg7 hF.size (fun m e => (o4.block m e).1)
              refine wpOp_appendL (i := 7) (d := some 72) (t := 22) rfl rfl rfl (by kernel_rfl) rfl (by rfl) (by rfl) hrun ⟨fun _ => hF, ?_⟩
              go_frame
              clear hrun hg7 hor7 o4 oL
              refine F_one (i := 11) (s' := #[true, true, true, true, true, true, true, true, true, true, true, true, false]) (by kernel_rfl) (by kernel_rfl) ?_
              obtain ⟨v11, ve0, hrun, o11, hg11, hor11⟩ := app_rows_run (e := 32) (sl := 22) Lsa.cells (fun _ => rfl) (by decide) (bytes := 104) (by decide) infoX rfl Try.underlying22 onesX (w := vd0) 22 w5.heap.size v7 _ o7 (if c7 = kk then A7 else A7.map fun x => x.add (kk * 9)) (c7 - kk) (l.length - kk) (l.reverse.drop kk) (by rw [List.length_drop, List.length_reverse]) (rows_lo (OwnR.rows (C := 9) (cells := Lsa.cells) (fun _ => rfl) (HO5.out.below hF)).2 kk (by rw [List.length_reverse]) Hlc.out) (by rw [List.nil_append, List.length_append, List.length_take, List.length_drop, List.length_reverse]; simp only [List.length_singleton]; omega) hF.size
              have hF := hF.grown hg11 hF.size (fun m e => (o7.block m e).1)
              refine wpOp_appendL (i := 11) (d := some 76) (t := 22) rfl rfl rfl (by kernel_rfl) rfl (by rfl) (by rfl) hrun ⟨fun _ => hF, ?_⟩
              go_frame
              obtain ⟨A5, c5, hv5⟩ := o11.shape
              subst hv5
              clear hrun hg11 hor11 o7
              refine F_one (i := 12) (s' := #[true, true, true, true, true, true, true, true, true, true, true, true, true]) (by kernel_rfl) (by kernel_rfl) ?_
              refine wpOp_valueL (i := 12) (d := some 7) (w' := ve0) (v := .slice A5 ((([] ++ l.reverse.take kk) ++ [(⟨⟨60, y2, y3, y4, y5, y6, y7⟩, ka, kc, ls, ma, mc, ms⟩ : Lsa)]) ++ l.reverse.drop kk).length c5) rfl rfl (by kernel_rfl) (by go_simp) ⟨fun h => absurd h (by decide), ?_⟩
              go_frame
              refine F_done (by kernel_rfl) ?_ _
              have HFin := Lib.hid (HTail.out ve0 A5 c5 o11 hF)
              clear o11 hF
              obtain ⟨nO, hnO⟩ : ∃ nO, ((([] ++ l.reverse.take kk) ++ [(⟨⟨60, y2, y3, y4, y5, y6, y7⟩, ka, kc, ls, ma, mc, ms⟩ : Lsa)]) ++ l.reverse.drop kk).length = nO := ⟨_, rfl⟩
              rw [hnO] at HFin
              rw [hnO]
              clear hnO
              go_wp2_with (first
                | (go_at_call 52; (with_reducible refine Calls.mono HFin.out.1 ?_); rintro r wa ⟨⟨va, rfl, hxa⟩, hba⟩; obtain ⟨Aa, ca, hva⟩ := hxa.shape; subst hva; have HXa := Lib.hid hxa; have HE2 := Lib.hid (HFin.out.2.1 wa hba); have HBa := Lib.hid hba; clear hxa hba)
                | (go_at_call 52; (with_reducible refine Calls.mono HE2.out ?_); rintro r wb ⟨⟨vb, rfl, hxb⟩, hbb⟩; obtain ⟨Ab, cb, hvb⟩ := hxb.shape; subst hvb; have HBb := Lib.hid (below_trans HBa.out HBa.out.size hbb); have HS := Lib.hid (Same20s Aa Ab ca cb Ed0 wb wb.heap.size wb.heap.size (OwnR.rows (C := 5) (cells := Ed.cells) (fun _ => rfl) (HXa.out.below hbb)).2 (OwnR.rows (C := 5) (cells := Ed.cells) (fun _ => rfl) hxb).2 (Nat.le_refl _) (Nat.le_refl _) (by have := HEl.out; omega) Ed0.length Ed0.length rfl rfl); clear hxb hbb)
                | (go_at_call 50; (with_reducible refine Calls.mono HS.out ?_); rintro r wc ⟨rfl, hbc⟩; have HBc := Lib.hid (below_trans HBb.out HBb.out.size hbc); have HF3 := Lib.hid (HFin.out.2.2.1 wc HBc.out); clear hbc)
                | (go_at_call 55; (with_reducible refine Calls.mono HF3.out ?_); rintro r we ⟨⟨ve, rfl, hxe⟩, hbe⟩; obtain ⟨Ae, ce, hve⟩ := hxe.shape; subst hve; have HBe := Lib.hid (below_trans HBc.out HBc.out.size hbe); have HXe := Lib.hid hxe; have HF4 := Lib.hid (HFin.out.2.2.2.1 we HBe.out); clear hxe hbe)
                | (go_at_call 55; (with_reducible refine Calls.mono HF4.out ?_); rintro r wf ⟨⟨vf, rfl, hxf⟩, hbf⟩; obtain ⟨Af, cf, hvf⟩ := hxf.shape; subst hvf; have HBf := Lib.hid (below_trans HBe.out HBe.out.size hbf); have HS2 := Lib.hid (SameF20s Ae Af ce cf Lf0 wf wf.heap.size wf.heap.size (OwnR.rows (C := 3) (cells := Lf.cells) (fun _ => rfl) (HXe.out.below hbf)).2 (OwnR.rows (C := 3) (cells := Lf.cells) (fun _ => rfl) hxf).2 (Nat.le_refl _) (Nat.le_refl _) (by have := HLfl.out; omega) Lf0.length Lf0.length rfl rfl); clear hxf hbf)
                | (go_at_call 54; (with_reducible refine Calls.mono HS2.out ?_); rintro r wg ⟨rfl, hbg⟩; have HBg := Lib.hid (below_trans HFin.out.2.2.2.2 HFin.out.2.2.2.2.size (below_trans HBf.out HBf.out.size hbg)); clear hbg))
              all_goals
                have HBz := HBg.out
                rw [Hg0.out] at HBz
                have HBy := Lib.hid HBz
                clear HBz
                go_ret
                exact ⟨rfl, HBy.out⟩

end Go.Proofs.Ytbffhdlfplgccaa
