/-
  The law ExchSelf: its walk.
-/
import Derived.Test.YtbffhdlfplgccaaExTwo
import Derived.Test.YtbffhdlfplgccaaExSelf
import Derived.Test.YtbffhdlfplgccaaLsMany
import Derived.Test.YtbffhdlfplgccaaLsaOpen
namespace Go.Proofs.Ytbffhdlfplgccaa
open Go.RowKit Go.Sort

set_option maxHeartbeats 2000000 in
set_option maxRecDepth 100000 in
theorem many14 (A : Option Addr) (c : Nat) (l : List Lsa) (w : World) (B : Nat) (h : RowsAt 9 Lsa.cells w B A l) (hB : B ≤ w.heap.size) (hm : l.length ≤ maxLen) (n : Nat) (hn : n = l.length) {t : Bool} (ht : manyB 60 l = t) :
    Calls Try.prog 35 #[.slice A n c] w fun r w' => r = .returned (.bool t) ∧ Below w.heap.size w w' := by
  subst hn
  unfold maxLen at hm
  have H := Lib.hid (h.more hB)
  have Ht := Lib.hid ht
  clear h hB ht
  go_enter Try.func35, Try.ntmps35
  go_wp2
  go_loopw [7] (fun i wr => ∃ k : Nat, i = .int .i64 k ∧ k ≤ l.length ∧ (l.take k).any bigX = false ∧ Below w.heap.size w wr) (fun i _ => l.length - (intOf i).toNat)
  case atStart => exact ⟨0, rfl, Nat.zero_le _, rfl, Below.refl _ _⟩
  case round =>
    obtain ⟨k, rfl, hk, hany, hb⟩ := hrel
    by_cases hlt : k < l.length
    · obtain ⟨g, o, rfl, -, x0, x1, x2, x3, x4, x5, x6, x7, x8⟩ := row_lsa9 (H.out.below hb) k hlt
      have hkl : (k : Int) < (l.length : Int) := by omega
      have hsucc := List.take_succ_eq_append_getElem hlt
      have hmem := List.getElem_mem hlt
      obtain ⟨x, hx⟩ : ∃ x, l[k] = x := ⟨_, rfl⟩
      rw [hx] at x0 x1 x2 x3 x4 x5 x6 x7 x8 hsucc hmem
      obtain ⟨⟨y1, y2, y3, y4, y5, y6, y7⟩, ka, kc, ls, ma, mc, ms⟩ := x
      simp only at x0 x1 x2 x3 x4 x5 x6 x7 x8
      obtain ⟨nl, hnl⟩ : ∃ nl, ls.length = nl := ⟨_, rfl⟩
      obtain ⟨nm, hnm⟩ : ∃ nm, ms.length = nm := ⟨_, rfl⟩
      rw [hnl] at x7
      rw [hnm] at x8
      have Hb := Lib.hid hb
      have Hal := Lib.hid (fun o => hb.alloc hb.size o)
      by_cases h1 : bigX ⟨⟨y1, y2, y3, y4, y5, y6, y7⟩, ka, kc, ls, ma, mc, ms⟩ = true
      · have ht2 : t = true := by
          rw [← Ht.out]
          unfold manyB
          rw [List.any_eq_true.2 ⟨_, hmem, h1⟩]
          rfl
        have h2 : (20 : Int) < (nl : Int) ∨ (¬ (20 : Int) < (nl : Int) ∧ (20 : Int) < (nm : Int)) := by
          unfold bigX at h1
          simp only [Bool.or_eq_true, decide_eq_true_eq, hnl, hnm] at h1
          omega
        subst ht2
        clear h1 hb hany hx hsucc hmem hnl hnm
        rcases h2 with h2 | ⟨h2, h3⟩
        all_goals
          go_wp2
          go_ret
          exact ⟨rfl, Hal.out _⟩
      · have h2 : ¬ (20 : Int) < (nl : Int) ∧ ¬ (20 : Int) < (nm : Int) := by
          unfold bigX at h1
          simp only [Bool.or_eq_true, decide_eq_true_eq, hnl, hnm] at h1
          omega
        have Hany := Lib.hid (show (l.take (k + 1)).any bigX = false by rw [hsucc, List.any_append, hany]; simpa using h1)
        obtain ⟨h2, h3⟩ := h2
        clear h1 hb hany hx hsucc hmem hnl hnm
        go_wp2
        go_roundw
        case measure => simp [intOf]; omega
        case rel => exact ⟨k + 1, by go_num, hlt, Hany.out, Hal.out _⟩
    · have hkk : k = l.length := by omega
      subst hkk
      rw [List.take_length] at hany
      have ht2 : decide ((60 : Int) < (l.length : Int)) = t := by
        rw [← Ht.out]
        unfold manyB
        rw [hany, Bool.false_or, Bool.eq_iff_iff, decide_eq_true_eq, decide_eq_true_eq]
        omega
      have Ht2 := Lib.hid ht2
      have Hb := Lib.hid hb
      clear hb hany ht2
      go_wp2
      go_ret
      refine ⟨?_, Hb.out⟩
      rw [← Ht2.out]
      rfl
theorem row_tc {w : World} {B : Nat} {A : Option Addr} {l : List Bool} (h : RowsAt 1 tcell w B A l) (k : Nat) (hk : k < l.length) : ∃ b o, A = some ⟨b, o, none⟩ ∧ w.cell? ⟨b, o + k, none⟩ = some (.bool l[k]) := by
  obtain ⟨b, o, e, hb, hc⟩ := h (by omega)
  exact ⟨b, o, e, by simpa using hc k hk 0 _ (by omega) rfl⟩
set_option maxHeartbeats 4000000 in
set_option maxRecDepth 100000 in
theorem hears_self (sa sb pa pb : Nat) (n0 na nb : Int) (hn : 0 ≤ nb ∧ nb ≤ 4294967295) (A : Option Addr) (m c : Nat) (A' : Option Addr) (m' c' : Nat) (w : World) (hsa : Blk w sa 63 #[.pointer (some ⟨pa, 0, none⟩), .slice A m c, .slice none 0 0]) (hsb : Blk w sb 63 #[.pointer (some ⟨pb, 0, none⟩), .slice A' m' c', .slice none 0 0]) (hpa : Blk w pa 120 (exS n0 na)) (hpb : Blk w pb 120 (exS n0 nb)) :
    Calls Try.prog 37 #[.pointer (some ⟨sa, 0, none⟩), .pointer (some ⟨sb, 0, none⟩)] w fun r w' => r = .returned (.bool true) ∧ Below w.heap.size w w' := by
  have HS := Lib.hid (say_self pb n0 nb w hpb)
  have Hsa := Lib.hid hsa
  have Hpa := Lib.hid hpa
  obtain ⟨b0, b1, b2⟩ : _ ∧ _ ∧ _ := ⟨hsb.cell 0, hsb.cell 1, hsb.cell 2⟩
  simp only [List.getElem?_toArray, List.getElem?_cons_zero, List.getElem?_cons_succ] at b0 b1 b2
  clear hsa hsb hpa hpb
  go_enter Try.func37, Try.ntmps37
  go_wp2_with fail
  with_reducible refine Calls.mono HS.out ?_
  rintro r w2 ⟨rfl, hb2⟩
  have hsa2 := Hsa.out.below hb2 Hsa.out.lt
  have hpa2 := Hpa.out.below hb2 Hpa.out.lt
  obtain ⟨w3, hw3⟩ : ∃ w3, w2.alloc (.cells #[.bool true, .bool true, .bool true, .int .i64 nb, .slice none 0 0] 66) = w3 := ⟨_, rfl⟩
  obtain ⟨g3, hg3⟩ : ∃ g3, w2.heap.size = g3 := ⟨_, rfl⟩
  have hd := Blk.new w2 66 #[.bool true, .bool true, .bool true, .int .i64 nb, .slice none 0 0]
  have hb3 := below_new w2 (.cells #[.bool true, .bool true, .bool true, .int .i64 nb, .slice none 0 0] 66)
  rw [hw3, hg3] at hd
  rw [hw3] at hb3
  have Hd := Lib.hid hd
  have hsa3 := hsa2.below hb3 hsa2.lt
  have hpa3 := hpa2.below hb3 hpa2.lt
  have Hsa3 := Lib.hid hsa3
  have Hpa3 := Lib.hid hpa3
  have Hna := Lib.hid (show sa ≠ g3 ∧ pa ≠ g3 from by have := hsa2.lt; have := hpa2.lt; omega)
  have Hg3 := Lib.hid (show w.heap.size ≤ g3 from by have := hb2.size; omega)
  have Hb3 := Lib.hid (below_trans hb2 hb2.size hb3)
  have hfz := fun i => hd.frozen i
  obtain ⟨d0, d1, d2, d3, d4⟩ := blk5 hd
  clear hb2 hsa2 hpa2 hd hb3 hsa3 hpa3 b0 b1 b2
  go_upto_region 2 with fail
  obtain ⟨w4, hw4⟩ : ∃ w4, w3.setCell ⟨g3, 4, none⟩ (.slice none 0 0) = w4 := ⟨_, rfl⟩
  rw [hw4]
  have hd4 : Blk w4 g3 66 #[.bool true, .bool true, .bool true, .int .i64 nb, .slice none 0 0] := by rw [← hw4]; simpa using Hd.out.set_ 4 (.slice none 0 0)
  have hsa4 : Blk w4 sa 63 #[.pointer (some ⟨pa, 0, none⟩), .slice A m c, .slice none 0 0] := by rw [← hw4]; exact Hsa3.out.grown (grown_set w3 g3 4 _) (fun e => Hna.out.1 (by injection e))
  have hpa4 : Blk w4 pa 120 (exS n0 na) := by rw [← hw4]; exact Hpa3.out.grown (grown_set w3 g3 4 _) (fun e => Hna.out.2 (by injection e))
  have Hb4 := Lib.hid (show Below w.heap.size w w4 by rw [← hw4]; exact Hb3.out.setCell (p := ⟨g3, 4, none⟩) Hg3.out _)
  have CH := Lib.hid (fun dd os => Calls.regrown_of (w := w4) (d := dd) (os := os) (hear_self pa n0 na nb hn A m c _ (hpa4.below (below_regrown w4 dd os) hpa4.lt)))
  clear d0 d1 d2 d3 d4 hfz hw4 hw3 hg3
  obtain ⟨d0, d1, d2, d3, d4⟩ := blk5 hd4
  obtain ⟨a0, a1, a2⟩ : _ ∧ _ ∧ _ := ⟨hsa4.cell 0, hsa4.cell 1, hsa4.cell 2⟩
  simp only [List.getElem?_toArray, List.getElem?_cons_zero, List.getElem?_cons_succ] at a0 a1 a2
  have d0 := cell_regrown d0
  have d1 := cell_regrown d1
  have d2 := cell_regrown d2
  have d3 := cell_regrown d3
  have d4 := cell_regrown d4
  have a0 := cell_regrown a0
  have a1 := cell_regrown a1
  clear hd4 hsa4 hpa4 a2
  refine wp_region_quiet_below (by kernel_rfl) (by kernel_rfl) ?_
  repeat (go_big_quiet_step (exact CH.out _ _))
  refine wpQuiet_nil ?_
  rintro w5 ⟨⟨dq, osq⟩, rfl⟩
  have Hb5 := Lib.hid (below_trans Hb4.out Hb4.out.size (below_regrown w4 dq osq))
  clear d0 d1 d2 d3 d4 a0 a1 CH
  go_wp2
  go_ret
  exact ⟨rfl, Hb5.out⟩

set_option maxHeartbeats 8000000 in
set_option maxRecDepth 100000 in
theorem exchSelf_any (n0 n1 n2 : Int) (A : Option Addr) (cap : Nat) (l : List Lsa) (At : Option Addr) (ct : Nat) (ts : List Bool) (w : World) (hl : LsasAt w w.heap.size A l) (hm : l.length ≤ maxLen) (ht : RowsAt 1 tcell w w.heap.size At ts) (htm : ts.length ≤ maxLen) :
    Calls Try.prog 5 #[.agg #[.int .i64 n0, .int .i64 n1, .int .i64 n2], .slice A l.length cap, .slice At ts.length ct] w fun r w' => r = .returned (.bool true) ∧ Below w.heap.size w w' := by
  obtain ⟨w1, hw1⟩ : ∃ w1, w.alloc (.cells #[.int .i64 n0, .int .i64 n1, .int .i64 n2] 53) = w1 := ⟨_, rfl⟩
  obtain ⟨g1, hg1⟩ : ∃ g1, w.heap.size = g1 := ⟨_, rfl⟩
  have hd := Blk.new w 53 #[.int .i64 n0, .int .i64 n1, .int .i64 n2]
  have hb1 := below_new w (.cells #[.int .i64 n0, .int .i64 n1, .int .i64 n2] 53)
  rw [hw1, hg1] at hd
  rw [hw1] at hb1
  unfold maxLen at htm
  have HD := Lib.hid hd
  have Hb1 := Lib.hid hb1
  have HT := Lib.hid ht
  obtain ⟨t, htt⟩ : ∃ t, manyB 60 l = t := ⟨_, rfl⟩
  have HMany := Lib.hid (fun W (hW : Below w.heap.size w W) => many14 A cap l W w.heap.size (hl.rows.below hW) hW.size hm l.length rfl htt)
  obtain ⟨nl, hnl⟩ : ∃ nl, l.length = nl := ⟨_, rfl⟩
  rw [hnl] at HMany ⊢
  clear hd hb1 hl hm ht htt hnl
  go_enter Try.func5, Try.ntmps5
  go_wp2_with fail
  with_reducible refine Calls.mono (wakes14 _) ?_
  rintro r w2 ⟨rfl, hb2⟩
  have HD2 := Lib.hid (HD.out.below hb2 HD.out.lt)
  have Hb2 := Lib.hid (below_trans Hb1.out Hb1.out.size hb2)
  clear hb2
  go_wp2_with fail
  with_reducible refine Calls.mono (HMany.out _ Hb2.out) ?_
  rintro r w3 ⟨rfl, hb3⟩
  have HD3 := Lib.hid (HD2.out.below hb3 HD2.out.lt)
  have Hb3 := Lib.hid (below_trans Hb2.out Hb2.out.size hb3)
  clear hb3
  cases t with
  | true =>
    go_wp2
    go_ret
    exact ⟨rfl, Hb3.out⟩
  | false =>
    by_cases h100 : (100 : Int) < (ts.length : Int)
    · go_wp2
      go_ret
      exact ⟨rfl, Hb3.out⟩
    · have hti : (ts.length : Int) ≤ 100 := by omega
      obtain ⟨d0, d1, d2⟩ : _ ∧ _ ∧ _ := ⟨HD3.out.cell 0, HD3.out.cell 1, HD3.out.cell 2⟩
      simp only [List.getElem?_toArray, List.getElem?_cons_zero, List.getElem?_cons_succ] at d0 d1 d2
      have HTwo := Lib.hid (two_self n0 n1 n2 A nl cap w3)
      go_wp2_with fail
      with_reducible refine Calls.mono HTwo.out ?_
      rintro r w4 ⟨p1, p2, s1, s2, rfl, hp1, hp2, hs1, hs2, hb4⟩
      obtain ⟨m1, hm1⟩ : ∃ m1, n1 % 4294967296 = m1 := ⟨_, rfl⟩
      obtain ⟨m2, hm2⟩ : ∃ m2, n2 % 4294967296 = m2 := ⟨_, rfl⟩
      rw [hm1] at hp1
      rw [hm2] at hp2
      have Hm1 := Lib.hid (show 0 ≤ m1 ∧ m1 ≤ 4294967295 by omega)
      have Hm2 := Lib.hid (show 0 ≤ m2 ∧ m2 ≤ 4294967295 by omega)
      have HK4 := Lib.hid (show Blk w4 p1 120 (exS n0 m1) ∧ Blk w4 p2 120 (exS n0 m2) ∧ Blk w4 s1 63 #[.pointer (some ⟨p1, 0, none⟩), .slice A nl cap, .slice none 0 0] ∧ Blk w4 s2 63 #[.pointer (some ⟨p2, 0, none⟩), .slice A nl cap, .slice none 0 0] from ⟨hp1, hp2, hs1, hs2⟩)
      have Hb4 := Lib.hid (below_trans Hb3.out Hb3.out.size hb4)
      clear hp1 hp2 hs1 hs2 hb4 hm1 hm2 d0 d1 d2
      go_wp2
      go_loopw [38] (fun i wr => ∃ k : Nat, i = .int .i64 k ∧ k ≤ ts.length ∧ Below w4.heap.size w4 wr) (fun i _ => ts.length - (intOf i).toNat)
      case atStart => exact ⟨0, rfl, Nat.zero_le _, Below.refl _ _⟩
      case round =>
        obtain ⟨k, rfl, hk, hb⟩ := hrel
        have Hb := Lib.hid hb
        have HK := Lib.hid (show Blk wr p1 120 (exS n0 m1) ∧ Blk wr p2 120 (exS n0 m2) ∧ Blk wr s1 63 #[.pointer (some ⟨p1, 0, none⟩), .slice A nl cap, .slice none 0 0] ∧ Blk wr s2 63 #[.pointer (some ⟨p2, 0, none⟩), .slice A nl cap, .slice none 0 0] from ⟨HK4.out.1.below hb HK4.out.1.lt, HK4.out.2.1.below hb HK4.out.2.1.lt, HK4.out.2.2.1.below hb HK4.out.2.2.1.lt, HK4.out.2.2.2.below hb HK4.out.2.2.2.lt⟩)
        by_cases hlt : k < ts.length
        · obtain ⟨g, o, hA, x0⟩ := row_tc (HT.out.below (below_trans Hb4.out Hb4.out.size hb)) k hlt
          have hkl : (k : Int) < (ts.length : Int) := by omega
          have HA := Lib.hid hA
          rw [hA]
          have Hlt := Lib.hid hlt
          generalize ts[k] = tn at *
          have H12 := Lib.hid (hears_self s1 s2 p1 p2 n0 m1 m2 Hm2.out A nl cap A nl cap wr HK.out.2.2.1 HK.out.2.2.2 HK.out.1 HK.out.2.1)
          have H21 := Lib.hid (hears_self s2 s1 p2 p1 n0 m2 m1 Hm1.out A nl cap A nl cap wr HK.out.2.2.2 HK.out.2.2.1 HK.out.2.1 HK.out.1)
          clear hA hlt hk hb
          cases tn with
          | true =>
            go_wp2_with fail
            with_reducible refine Calls.mono H12.out ?_
            rintro r w5 ⟨rfl, hb5⟩
            have e3 := (HK.out.1.below hb5 HK.out.1.lt).cell 3
            have f3 := (HK.out.2.1.below hb5 HK.out.2.1.lt).cell 3
            have a0 := (HK.out.2.2.1.below hb5 HK.out.2.2.1.lt).cell 0
            have b0 := (HK.out.2.2.2.below hb5 HK.out.2.2.2.lt).cell 0
            simp only [List.getElem?_toArray, List.getElem?_cons_zero, List.getElem?_cons_succ] at e3 f3 a0 b0
            have HA1 := Lib.hid (agreed_any p1 false w5 e3)
            have HA2 := Lib.hid (agreed_any p2 false w5 f3)
            have Hb5 := Lib.hid (below_trans Hb.out Hb.out.size hb5)
            clear hb5 e3 f3 x0
            go_wp2_with (first
              | (go_at_call 38; (with_reducible refine Calls.mono HA1.out ?_); rintro r wx ⟨rfl, rfl⟩)
              | (go_at_call 38; (with_reducible refine Calls.mono HA2.out ?_); rintro r wx ⟨rfl, rfl⟩))
            go_roundw
            case measure => have := Hlt.out; simp [intOf]; omega
            case rel => exact ⟨k + 1, by go_num, Hlt.out, Hb5.out⟩
          | false =>
            go_wp2_with fail
            with_reducible refine Calls.mono H21.out ?_
            rintro r w5 ⟨rfl, hb5⟩
            have e3 := (HK.out.1.below hb5 HK.out.1.lt).cell 3
            have f3 := (HK.out.2.1.below hb5 HK.out.2.1.lt).cell 3
            have a0 := (HK.out.2.2.1.below hb5 HK.out.2.2.1.lt).cell 0
            have b0 := (HK.out.2.2.2.below hb5 HK.out.2.2.2.lt).cell 0
            simp only [List.getElem?_toArray, List.getElem?_cons_zero, List.getElem?_cons_succ] at e3 f3 a0 b0
            have HA1 := Lib.hid (agreed_any p1 false w5 e3)
            have HA2 := Lib.hid (agreed_any p2 false w5 f3)
            have Hb5 := Lib.hid (below_trans Hb.out Hb.out.size hb5)
            clear hb5 e3 f3 x0
            go_wp2_with (first
              | (go_at_call 38; (with_reducible refine Calls.mono HA1.out ?_); rintro r wx ⟨rfl, rfl⟩)
              | (go_at_call 38; (with_reducible refine Calls.mono HA2.out ?_); rintro r wx ⟨rfl, rfl⟩))
            go_roundw
            case measure => have := Hlt.out; simp [intOf]; omega
            case rel => exact ⟨k + 1, by go_num, Hlt.out, Hb5.out⟩
        · have hke : k = ts.length := by omega
          subst hke
          have hkl : ¬ (ts.length : Int) < (ts.length : Int) := by omega
          have a2 := HK.out.2.2.1.cell 2
          have b2 := HK.out.2.2.2.cell 2
          simp only [List.getElem?_toArray, List.getElem?_cons_zero, List.getElem?_cons_succ] at a2 b2
          clear hlt hk hb
          go_wp2
          go_quiet (fail)
          go_wp2
          go_ret
          exact ⟨rfl, below_drewN (below_trans Hb4.out Hb4.out.size Hb.out) _⟩

end Go.Proofs.Ytbffhdlfplgccaa
