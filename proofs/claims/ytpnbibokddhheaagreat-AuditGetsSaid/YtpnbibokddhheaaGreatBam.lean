/-
  Layer 20: all edges: the program's way.
-/
import Derived.Test.YtpnbibokddhheaaGreatBaf
import Derived.Test.YtpnbibokddhheaaGreatBag
import Derived.Test.YtpnbibokddhheaaGreatBal
namespace Go.Proofs.YtpnbibokddhheaaGreat
open Go.RowKit Go.Sort Go.Proofs

theorem zeroSl (w : World) : (zeroValue 29).run Tryz.prog w = .ok (.slice none 0 0) w := by kernel_rfl
/-- what the map of networks has of a number -/
theorem net_val {W : World} {O : List Lsa} (hr : ∀ x ∈ O, rowsX W x) (hl : ∀ x ∈ O, x.links.length ≤ 1000 ∧ x.members.length ≤ 1000) (n : Int) : ∃ ma mc, (getL n (netL O)).getD (.slice none 0 0) = .slice ma (memV (O.map vX) n).length mc ∧ RowsAt 1 icell W W.heap.size ma (memV (O.map vX) n) ∧ (memV (O.map vX) n).length ≤ 1000 := by
  rw [net_get, memV_of]
  cases h : O.find? fun x => isNet n (vX x) with
  | none => exact ⟨none, 0, rfl, RowsAt.nil, by simp⟩
  | some x =>
    have hx := List.mem_of_find?_eq_some h
    exact ⟨x.ma, x.mcap, rfl, (hr x hx).2, (hl x hx).2⟩
/-- what lies in memory -/
structure EdSt (w2 wr : World) (bc : Nat) (T : List (Int × Int × Int)) (M : List (P4 × Int)) : Prop where
  map : MapAt P4.enc wr bc (intL M)
  cost : CostM wantE M T
  bel : Below w2.heap.size w2 wr
theorem EdSt.keep {w2 wr wr' : World} {bc : Nat} {T : List (Int × Int × Int)} {M : List (P4 × Int)} (h : EdSt w2 wr bc T M) (hb : Below wr.heap.size wr wr') : EdSt w2 wr' bc T M := ⟨h.map.below hb h.map.lt, h.cost, below_trans h.bel h.bel.size hb⟩
theorem blk4 {w : World} {g : Nat} {t : TypeId} {a b c d : Value} (h : Blk w g t #[a, b, c, d]) : w.cell? ⟨g, 0, none⟩ = some a ∧ w.cell? ⟨g, 1, none⟩ = some b ∧ w.cell? ⟨g, 2, none⟩ = some c ∧ w.cell? ⟨g, 3, none⟩ = some d := ⟨h.cell 0, h.cell 1, h.cell 2, h.cell 3⟩

set_option maxHeartbeats 16000000 in
set_option maxRecDepth 100000 in
theorem Edges_any (A : Option Addr) (cap : Nat) (l : List Lsa) (w : World) (hl : RowsAt 9 Lsa.cells w w.heap.size A l) (he : ∀ x ∈ l, RowsAt 4 Lnk.cells w w.heap.size x.ka x.links ∧ RowsAt 1 icell w w.heap.size x.ma x.members) (hlens : ∀ x ∈ l, x.links.length ≤ 1000 ∧ x.members.length ≤ 1000) (hm : l.length ≤ 60) (nn : Nat) (hnn : nn = l.length) :
    Calls Tryz.prog 28 #[.slice A nn cap] w fun r w' => (∃ v, r = .returned v ∧ OwnR 133 5 Ed.cells w' w.heap.size v (edgesV (l.map vX))) ∧ Below w.heap.size w w' := by
  have HCo := Lib.hid (Counts_any A cap l w hl he hlens (by omega) nn hnn)
  clear hl he hlens hnn
  go_enter Tryz.func28, Tryz.ntmps28
  go_wp2_with fail
  with_reducible refine Calls.mono HCo.out ?_
  rintro r w1 ⟨⟨v1, rfl, O, hx1, hO1⟩, hb1⟩
  obtain ⟨A1, c1, hv1⟩ := hx1.own.shape
  subst hv1
  have hOl : O.length ≤ 60 := by
    have h1 := congrArg List.length hO1
    have h2 := countsV_len (l.map vX)
    rw [List.length_map] at h1 h2
    omega
  have hcn : CntOk (O.map vX) := by rw [hO1]; exact countsV_ok _
  have HOn := Lib.hid (on_any A1 c1 O w1 (OwnR.rows (C := 9) (cells := Lsa.cells) (fun _ => rfl) hx1.own).2 hcn (by omega) O.length rfl)
  have Hx1 := Lib.hid hx1
  have HO1 := Lib.hid hO1
  have Hcn := Lib.hid hcn
  have Hb1 := Lib.hid hb1
  clear hx1 hO1 hcn hb1 HCo
  go_wp2_with fail
  with_reducible refine Calls.mono HOn.out ?_
  rintro r w2 ⟨rfl, hm2, hb2⟩
  obtain ⟨bn, hbn⟩ : ∃ bn, w1.heap.size = bn := ⟨_, rfl⟩
  rw [hbn] at hm2
  have HX2 := Lib.hid (Hx1.out.keep hb2)
  have HM2 := Lib.hid hm2
  have Hb2 := Lib.hid (below_trans Hb1.out Hb1.out.size hb2)
  clear hm2 hb2 HOn
  have hmm := @run_makeMap Tryz.prog
  obtain ⟨bc, hbc⟩ : ∃ bc, w2.heap.size = bc := ⟨_, rfl⟩
  have HS0 := Lib.hid (show EdSt w2 (w2.alloc (.map #[] 0)) bc [] [] from ⟨by rw [← hbc]; exact MapAt.new w2, costM_nil wantE_nil, (Below.refl _ _).alloc (Nat.le_refl _) _⟩)
  have Hbc := Lib.hid hbc
  rw [hbn]
  go_wp2
  clear hmm
  go_loopw [22] (fun i wr => ∃ (k : Nat) (M : List (P4 × Int)), i = .int .i64 k ∧ k ≤ O.length ∧ EdSt w2 wr bc (candC (O.map vX) ((O.map vX).take k)) M) (fun i _ => O.length - (intOf i).toNat)
  case atStart => exact ⟨0, [], rfl, Nat.zero_le _, HS0.out⟩
  case round =>
    obtain ⟨k, M, rfl, hk, hst⟩ := hrel
    clear HS0
    have HSt := Lib.hid hst
    by_cases hlt : k < O.length
    · obtain ⟨g, o, hA, -, x0, x1, x2, x3, x4, x5, x6, x7, x8⟩ := row_lsa9b ((OwnR.rows (C := 9) (cells := Lsa.cells) (fun _ => rfl) HX2.out.own).2.below hst.bel) k hlt
      have hkl : (k : Int) < (O.length : Int) := by omega
      have hrw := HX2.out.rows O[k] (List.getElem_mem hlt)
      have hln := HX2.out.lens O[k] (List.getElem_mem hlt)
      have hmore := candC_more (O.map vX) (O.map vX) (k := k) (by simpa using hlt)
      rw [List.getElem_map] at hmore
      have HA := Lib.hid hA
      rw [hA]
      have Hlt := Lib.hid hlt
      generalize O[k] = x at *
      obtain ⟨⟨y1, y2, y3, y4, y5, y6, y7⟩, ka, kc, ls, ma, mc, ms⟩ := x
      have hls := hrw.1
      simp only at x0 x1 x2 x3 x4 x5 x6 x7 x8 hln hls
      change candC (O.map vX) ((O.map vX).take (k + 1)) = candC (O.map vX) ((O.map vX).take k) ++ candL (O.map vX) (⟨y1, y2, y3, y4, y5, y6, y7⟩, ls, ms) ls at hmore
      obtain ⟨nl, hnl⟩ : ∃ nl, ls.length = nl := ⟨_, rfl⟩
      obtain ⟨nm, hnm⟩ : ∃ nm, ms.length = nm := ⟨_, rfl⟩
      rw [hnl] at x7
      rw [hnm] at x8
      have Hmore := Lib.hid hmore
      have Hls := Lib.hid hls
      have Hnl := Lib.hid hnl
      obtain ⟨w6, hw6⟩ : ∃ w6, wr.alloc (.cells #[.int .i64 y1, .int .i64 y2, .int .i64 y3, .int .i64 y4, .int .i64 y5, .int .i64 y6, .int .i64 y7, .slice ka nl kc, .slice ma nm mc] 31) = w6 := ⟨_, rfl⟩
      obtain ⟨g6, hg6⟩ : ∃ g6, wr.heap.size = g6 := ⟨_, rfl⟩
      have hk6 := Blk.new wr 31 #[.int .i64 y1, .int .i64 y2, .int .i64 y3, .int .i64 y4, .int .i64 y5, .int .i64 y6, .int .i64 y7, .slice ka nl kc, .slice ma nm mc]
      have hb6 := below_new wr (.cells #[.int .i64 y1, .int .i64 y2, .int .i64 y3, .int .i64 y4, .int .i64 y5, .int .i64 y6, .int .i64 y7, .slice ka nl kc, .slice ma nm mc] 31)
      rw [hw6, hg6] at hk6
      rw [hw6] at hb6
      have HS6 := Lib.hid (hst.keep hb6)
      have HK6 := Lib.hid hk6
      have Hg6 := Lib.hid (show g6 ≠ bc from fun e => by have := hst.map.lt; omega)
      have hnl2 : (nl : Int) ≤ 1000 := by omega
      have hnl3 : nl ≤ 1000 := by omega
      obtain ⟨z0, z1, z2, z3, z4, z5, z6, z7, z8, zf⟩ := blk9 hk6
      clear hnl hnm hA hlt hk6 hb6 hk hst hrw hln hls hmore
      go_wp2
      clear z0 z1 z2 z3 z4 z5 z6 z7 z8 zf x0 x1 x2 x3 x4 x5 x6 x7 x8
      go_loopw [29] (fun i wq => ∃ (j : Nat) (M : List (P4 × Int)), i = .int .i64 j ∧ j ≤ nl ∧ EdSt w2 wq bc (candC (O.map vX) ((O.map vX).take k) ++ candL (O.map vX) (⟨y1, y2, y3, y4, y5, y6, y7⟩, ls, ms) (ls.take j)) M ∧ Blk wq g6 31 #[.int .i64 y1, .int .i64 y2, .int .i64 y3, .int .i64 y4, .int .i64 y5, .int .i64 y6, .int .i64 y7, .slice ka nl kc, .slice ma nm mc]) (fun i _ => nl - (intOf i).toNat)
      case atStart => exact ⟨0, M, rfl, Nat.zero_le _, by simpa [candL] using HS6.out, HK6.out⟩
      case round =>
        obtain ⟨j, M, rfl, hj, hsq, hkq⟩ := hrel
        clear HS6 HK6 HSt
        by_cases hjl : j < nl
        · have hjl2 : j < ls.length := by have := Hnl.out; omega
          obtain ⟨g', o', hA', -, v0, v1, v2, v3⟩ := row_lnk (Hls.out.below hsq.bel) j hjl2
          have hjk : (j : Int) < (nl : Int) := by omega
          have hmq := candL_more (O.map vX) (⟨y1, y2, y3, y4, y5, y6, y7⟩, ls, ms) hjl2
          have HA' := Lib.hid hA'
          rw [hA']
          have Hjl := Lib.hid hjl
          generalize ls[j]'hjl2 = y at *
          obtain ⟨e1, e2, e3, e4⟩ := y
          simp only at v0 v1 v2 v3 hmq
          obtain ⟨T, hT⟩ : ∃ T, candC (O.map vX) ((O.map vX).take k) ++ candL (O.map vX) (⟨y1, y2, y3, y4, y5, y6, y7⟩, ls, ms) (ls.take j) = T := ⟨_, rfl⟩
          have hmq2 : candC (O.map vX) ((O.map vX).take k) ++ candL (O.map vX) (⟨y1, y2, y3, y4, y5, y6, y7⟩, ls, ms) (ls.take (j + 1)) = T ++ if e1 = 2 ∧ y4 ∈ memV (O.map vX) e2 then [(y4, e2, e4)] else [] := by rw [hmq, ← hT, List.append_assoc]
          rw [hT] at hsq
          have Hmq := Lib.hid hmq2
          obtain ⟨w8, hw8⟩ : ∃ w8, wr.alloc (.cells #[.int .i64 e1, .int .i64 e2, .int .i64 e3, .int .i64 e4] 152) = w8 := ⟨_, rfl⟩
          obtain ⟨g8, hg8⟩ : ∃ g8, wr.heap.size = g8 := ⟨_, rfl⟩
          have hk8 := Blk.new wr 152 #[.int .i64 e1, .int .i64 e2, .int .i64 e3, .int .i64 e4]
          have hb8 := below_new wr (.cells #[.int .i64 e1, .int .i64 e2, .int .i64 e3, .int .i64 e4] 152)
          rw [hw8, hg8] at hk8
          rw [hw8] at hb8
          have HS8 := Lib.hid (hsq.keep hb8)
          have HK8 := Lib.hid (hkq.below hb8 hkq.lt)
          have HL8 := Lib.hid hk8
          obtain ⟨ma2, mc2, hnv, hnr, hnlen⟩ := net_val (W := w8) (fun x hx => (HX2.out.rows x hx).keep HS8.out.bel) HX2.out.lens e2
          obtain ⟨nmem, hnmem⟩ : ∃ nmem, (memV (O.map vX) e2).length = nmem := ⟨_, rfl⟩
          rw [hnmem] at hnv
          have hlk := (HM2.out.below HS8.out.bel HM2.out.lt).look_run keyInt Tryz.underlying148 (zeroSl _) e2 false
          simp only [Bool.false_eq_true, if_false, hnv, encI] at hlk
          obtain ⟨tm, htm⟩ : ∃ tm, decide (y4 ∈ memV (O.map vX) e2) = tm := ⟨_, rfl⟩
          have HCt := Lib.hid (containsI ma2 mc2 (memV (O.map vX) e2) y4 w8 w8.heap.size hnr (Nat.le_refl _) (by omega) nmem hnmem.symm htm)
          have Htm := Lib.hid htm
          obtain ⟨z0, z1, z2, z3, z4, z5, z6, z7, z8, zf⟩ := blk9 HK8.out
          obtain ⟨q0, q1, q2, q3⟩ := blk4 hk8
          clear hA' hjl hjl2 hmq hmq2 hT hsq hkq hk8 hb8 hnv hnr hnlen hnmem htm hj
          by_cases h2 : e1 = 2
          · subst h2
            cases tm with
            | false =>
              have hnm := of_decide_eq_false Htm.out
              have HSn := Lib.hid (show EdSt w2 w8 bc (candC (O.map vX) ((O.map vX).take k) ++ candL (O.map vX) (⟨y1, y2, y3, y4, y5, y6, y7⟩, ls, ms) (ls.take (j + 1))) M by
                rw [Hmq.out, if_neg (fun h => hnm h.2), List.append_nil]; exact HS8.out)
              clear hnm
              go_wp2_with (go_at_call 63; (with_reducible refine Calls.mono HCt.out ?_); rintro r wx ⟨rfl, rfl⟩)
              go_roundw
              case measure => have := Hjl.out; simp [intOf]; omega
              case rel => exact ⟨j + 1, M, by go_num, Hjl.out, HSn.out, by have h := HK8.out; rw [HA'.out] at h; exact h⟩
            | true =>
              have hym := of_decide_eq_true Htm.out
              have hmq3 : candC (O.map vX) ((O.map vX).take k) ++ candL (O.map vX) (⟨y1, y2, y3, y4, y5, y6, y7⟩, ls, ms) (ls.take (j + 1)) = T ++ [(y4, e2, e4)] := by
                rw [Hmq.out, if_pos ⟨rfl, hym⟩]
              have Hmq3 := Lib.hid hmq3
              clear hym hmq3
              obtain ⟨w9, hw9⟩ : ∃ w9, w8.alloc (.cells #[.int .i64 1, .int .i64 y4, .int .i64 2, .int .i64 e2] 155) = w9 := ⟨_, rfl⟩
              obtain ⟨g9, hg9⟩ : ∃ g9, w8.heap.size = g9 := ⟨_, rfl⟩
              have hk9 := Blk.new w8 155 #[.int .i64 1, .int .i64 y4, .int .i64 2, .int .i64 e2]
              have hb9 := below_new w8 (.cells #[.int .i64 1, .int .i64 y4, .int .i64 2, .int .i64 e2] 155)
              rw [hw9, hg9] at hk9
              rw [hw9] at hb9
              have HS9 := Lib.hid (HS8.out.keep hb9)
              have HK9 := Lib.hid (HK8.out.below hb9 HK8.out.lt)
              have hl9 := HL8.out.below hb9 HL8.out.lt
              obtain ⟨p0, p1, p2, p3⟩ := blk4 hk9
              obtain ⟨r0, r1, r2, r3⟩ := blk4 hl9
              have hlp := HS9.out.map.look_run keyP4 Tryz.underlying150 (zeroI20 _) ⟨1, y4, 2, e2⟩ true
              rw [HS9.out.cost.get] at hlp
              clear hk9 hb9 hl9
              cases hw : wantE ⟨1, y4, 2, e2⟩ T with
              | none =>
                simp only [if_true, P4.enc, hw, Option.map, Option.getD, Option.isSome] at hlp
                have Hw := Lib.hid hw
                clear hw
                go_wp2_with (first
                  | (go_at_call 63; (with_reducible refine Calls.mono HCt.out ?_); rintro r wx ⟨rfl, rfl⟩)
                  | (at_mapUpdate; (refine wpList_update_st _ (by rfl) _ _ _ 150 (by rfl) 155 3 keyP4 Tryz.underlying150 (by rfl) HS9.out.map ⟨1, y4, 2, e2⟩ (by rfl) (.int .i64 e4) (by rfl) ?_); intro w10 hm10 hg10 hs10; rw [setL_int] at hm10; have HSn := Lib.hid (EdSt.mk (w2 := w2) hm10 (HS9.out.cost.set_ (wantE_snoc y4 e2 e4 T) (.inl Hw.out)) (HS9.out.bel.grown hg10 HS9.out.bel.size (fun m e => by injection e with e; rw [← e, Hbc.out]; exact Nat.le_refl _))); have HKn := Lib.hid (HK9.out.grown hg10 (fun e => Hg6.out (by injection e))); clear hm10 hg10 hs10))
                go_roundw
                case measure => have := Hjl.out; simp [intOf]; omega
                case rel => exact ⟨j + 1, _, by go_num, Hjl.out, by rw [Hmq3.out]; exact HSn.out, by have h := HKn.out; rw [HA'.out] at h; exact h⟩
              | some b =>
                simp only [if_true, P4.enc, hw, Option.map, Option.getD, Option.isSome] at hlp
                have Hw := Lib.hid hw
                clear hw
                by_cases hlt4 : e4 < b
                · go_wp2_with (first
                    | (go_at_call 63; (with_reducible refine Calls.mono HCt.out ?_); rintro r wx ⟨rfl, rfl⟩)
                    | (at_mapUpdate; (refine wpList_update_st _ (by rfl) _ _ _ 150 (by rfl) 155 3 keyP4 Tryz.underlying150 (by rfl) HS9.out.map ⟨1, y4, 2, e2⟩ (by rfl) (.int .i64 e4) (by rfl) ?_); intro w10 hm10 hg10 hs10; rw [setL_int] at hm10; have HSn := Lib.hid (EdSt.mk (w2 := w2) hm10 (HS9.out.cost.set_ (wantE_snoc y4 e2 e4 T) (.inr ⟨b, Hw.out, hlt4⟩)) (HS9.out.bel.grown hg10 HS9.out.bel.size (fun m e => by injection e with e; rw [← e, Hbc.out]; exact Nat.le_refl _))); have HKn := Lib.hid (HK9.out.grown hg10 (fun e => Hg6.out (by injection e))); clear hm10 hg10 hs10))
                  go_roundw
                  case measure => have := Hjl.out; simp [intOf]; omega
                  case rel => exact ⟨j + 1, _, by go_num, Hjl.out, by rw [Hmq3.out]; exact HSn.out, by have h := HKn.out; rw [HA'.out] at h; exact h⟩
                · have HSn := Lib.hid (EdSt.mk HS9.out.map (HS9.out.cost.keep (wantE_snoc y4 e2 e4 T) ⟨b, Hw.out, hlt4⟩) HS9.out.bel)
                  go_wp2_with (go_at_call 63; (with_reducible refine Calls.mono HCt.out ?_); rintro r wx ⟨rfl, rfl⟩)
                  go_roundw
                  case measure => have := Hjl.out; simp [intOf]; omega
                  case rel => exact ⟨j + 1, M, by go_num, Hjl.out, by rw [Hmq3.out]; exact HSn.out, by have h := HK9.out; rw [HA'.out] at h; exact h⟩
          · have HSn := Lib.hid (show EdSt w2 w8 bc (candC (O.map vX) ((O.map vX).take k) ++ candL (O.map vX) (⟨y1, y2, y3, y4, y5, y6, y7⟩, ls, ms) (ls.take (j + 1))) M by
              rw [Hmq.out, if_neg (fun h => h2 h.1), List.append_nil]; exact HS8.out)
            go_wp2
            go_roundw
            case measure => have := Hjl.out; simp [intOf]; omega
            case rel => exact ⟨j + 1, M, by go_num, Hjl.out, HSn.out, by have h := HK8.out; rw [HA'.out] at h; exact h⟩
        · have hje : j = nl := by omega
          subst hje
          have hls2 : ls.take ls.length = ls := List.take_length
          have hsq2 : EdSt w2 wr bc (candC (O.map vX) ((O.map vX).take (k + 1))) M := by
            rw [Hmore.out]
            rw [← Hnl.out, hls2] at hsq
            exact hsq
          have HSq := Lib.hid hsq2
          have hjk : ¬ (j : Int) < (j : Int) := by omega
          clear hjl hsq hkq hsq2 hls2 hj
          go_wp2
          go_roundw
          case measure => have := Hlt.out; simp [intOf]; omega
          case rel => exact ⟨k + 1, M, by go_num, Hlt.out, HSq.out⟩
    · have hke : k = O.length := by omega
      subst hke
      have hkl : ¬ (O.length : Int) < (O.length : Int) := by omega
      have hst2 : EdSt w2 wr bc (candC (O.map vX) (O.map vX)) M := by
        have h := hst
        rw [show (O.map vX).take O.length = O.map vX from by rw [← List.length_map (f := vX), List.take_length]] at h
        exact h
      have HSE := Lib.hid hst2
      have hMl : M.length ≤ 60000 := by
        have h1 := hst2.cost.len
        have h2 := candC_len (O.map vX) (m := 1000) (O.map vX) (fun x hx => by
          obtain ⟨y, hy, rfl⟩ := List.mem_map.1 hx
          exact (HX2.out.lens y hy).1)
        rw [List.length_map] at h2
        omega
      have hnd : (M.map (·.1)).Nodup := by rw [← intL_keys]; exact hst2.map.nodup
      have Hnd := Lib.hid hnd
      obtain ⟨ri, hri⟩ : ∃ ri, wr.heap.size = ri := ⟨_, rfl⟩
      have Hri := Lib.hid (show bc < ri by have := hst2.map.lt; omega)
      have Hri2 := Lib.hid hri
      clear hst hst2 hlt hk HSt hnd
      go_wp2_with (at_range; refine wpList_range_st _ rfl _ 150 rfl 155 3 Tryz.underlying150 rfl HSE.out.map ?_; intro w3 hr3 hb3 hs3; rw [Hri2.out] at hr3; have HR3 := Lib.hid hr3; have Hb3 := Lib.hid (below_trans HSE.out.bel HSE.out.bel.size hb3); have Hs3 := Lib.hid (show w3.heap.size = ri + 1 by rw [hs3, Hri2.out]); clear hr3 hb3 hs3)
      go_loopw [12] (fun v wr => ∃ D R, RangeAt P4.enc wr bc ri (intL M) (intL R) ∧ (D ++ R).Perm M ∧ OwnR 133 5 Ed.cells wr (ri + 1) v (D.flatMap two) ∧ Below w2.heap.size w2 wr ∧ ri + 1 ≤ wr.heap.size) (fun _ wr => wr.rangeLeft bc ri)
      case atStart => exact ⟨[], M, HR3.out, by rw [List.nil_append], OwnR.nil _ _, Hb3.out, by rw [Hs3.out]; exact Nat.le_refl _⟩
      case round =>
        obtain ⟨D, R, hrg, hperm, hown, hb, hsz⟩ := hrel
        obtain ⟨A7, c7, hv7⟩ := hown.shape
        subst hv7
        have hDl : D.length ≤ 60000 := by
          have h1 := hperm.length_eq
          rw [List.length_append] at h1
          omega
        have hEl : (D.flatMap two).length ≤ 120000 := by rw [two_len]; omega
        have Hel := Lib.hid hEl
        obtain ⟨nE, hnE⟩ : ∃ nE, (D.flatMap two).length = nE := ⟨_, rfl⟩
        rw [hnE] at hown ⊢
        have HnE := Lib.hid hnE
        have Hrg := Lib.hid hrg
        have Hperm := Lib.hid hperm
        have Hown := Lib.hid hown
        have Hb := Lib.hid hb
        have Hsz := Lib.hid hsz
        clear hrg hperm hown hb hsz HR3 Hb3 hEl hnE
        go_wp2_with (at_next; refine wpList_next_st _ rfl _ rfl keyP4.inj rfl Hrg.out ?_ ?_)
        · intro h0
          have hR0 : R = [] := by simpa [intL] using h0
          subst hR0
          clear h0
          have hperm := Hperm.out
          rw [List.append_nil] at hperm
          have hnd : (D.map (·.1)).Nodup := ((hperm.map _).nodup_iff).2 Hnd.out
          have hkeys := edge_keys HSE.out.cost Hnd.out
          have HS := Lib.hid (fun W hO => sortEs (.slice A7 nE c7) (D.flatMap two) (ri + 1) W hO (by have := Hel.out; omega) (edges_apart (fun e he => hkeys e (hperm.subset he)) hnd))
          have Hp := Lib.hid hperm
          clear hperm hnd hkeys
          go_wp2_with (go_at_call 64; (with_reducible refine Calls.mono (HS.out _ Hown.out) ?_); rintro r w4 ⟨rfl, ⟨N, hown4, hpN, hsN⟩, hg4⟩; have HO4 := Lib.hid hown4; have HN := Lib.hid (edges_laid Hcn.out HSE.out.cost Hnd.out Hp.out hpN hsN); have HNl := Lib.hid hpN.length_eq; have Hg4 := Lib.hid hg4; clear hown4 hg4 hpN hsN)
          obtain ⟨A8, c8, hv8⟩ := HO4.out.shape
          go_ret
          have hE : edgesV (l.map vX) = N := by rw [HN.out]; unfold edgesV; rw [HO1.out]
          refine ⟨⟨_, rfl, ?_⟩, ?_⟩
          · rw [hE]
            exact HO4.out.lower (by have := Hb2.out.size; have := Hri.out; have := Hbc.out; omega)
          · have h1 := below_trans Hb2.out Hb2.out.size Hb.out
            exact h1.grown Hg4.out h1.size (fun m e => by have := (Hown.out.block m e).1; have := Hb2.out.size; have := Hri.out; have := Hbc.out; omega)
        · intro pre e ev post w5 hsplit hrg5 hg5 hs5 hen
          obtain ⟨P, ⟨⟨a, b, c, d⟩, ct⟩, Q, hR, rfl, rfl, he⟩ := intL_split hsplit
          injection he with he1 he2
          subst he1 he2
          rw [intL_append] at hrg5
          have hmeas : (intL (P ++ Q)).length < (intL R).length := by rw [hR]; simp [intL]
          have hperm2 : (D ++ [((⟨a, b, c, d⟩ : P4), ct)] ++ (P ++ Q)).Perm M := by
            refine List.Perm.trans ?_ Hperm.out
            rw [hR, List.append_assoc]
            refine List.Perm.append_left D ?_
            rw [List.singleton_append]
            exact List.perm_middle.symm
          have Hmeas := Lib.hid hmeas
          have Hperm2 := Lib.hid hperm2
          have Hrg5 := Lib.hid hrg5
          have Hb5 := Lib.hid (show Below w2.heap.size w2 w5 from Hb.out.grown hg5 Hb.out.size (fun m e => by injection e with e; have := Hri.out; have := Hbc.out; omega))
          have Hown5 := Lib.hid (Hown.out.kept hg5 (by
            cases hv : (Value.slice A7 nE c7).ownBlock with
            | none => exact .inl rfl
            | some m => right; intro e; injection e with e; have := (Hown.out.block m hv).1; omega))
          have Hs5 := Lib.hid (show ri + 1 ≤ w5.heap.size by rw [hs5]; exact Hsz.out)
          clear hsplit hrg5 hg5 hs5 hR hmeas hperm2
          unfold P4.enc at hen
          simp only at hen
          obtain ⟨w6, hw6⟩ : ∃ w6, w5.alloc (.cells #[.int .i64 a, .int .i64 b, .int .i64 c, .int .i64 d] 155) = w6 := ⟨_, rfl⟩
          obtain ⟨g6, hg6⟩ : ∃ g6, w5.heap.size = g6 := ⟨_, rfl⟩
          have hk6 := Blk.new w5 155 #[.int .i64 a, .int .i64 b, .int .i64 c, .int .i64 d]
          have hb6 := below_new w5 (.cells #[.int .i64 a, .int .i64 b, .int .i64 c, .int .i64 d] 155)
          rw [hw6, hg6] at hk6
          rw [hw6] at hb6
          obtain ⟨p0, p1, p2, p3⟩ := blk4 hk6
          have hb7 := below_new w6 (.cells #[.int .i64 a, .int .i64 b, .int .i64 c, .int .i64 d, .int .i64 ct, .int .i64 c, .int .i64 d, .int .i64 a, .int .i64 b, .int .i64 0] 133)
          have hk7 := Blk.new w6 133 #[.int .i64 a, .int .i64 b, .int .i64 c, .int .i64 d, .int .i64 ct, .int .i64 c, .int .i64 d, .int .i64 a, .int .i64 b, .int .i64 0]
          have hb67 := below_trans hb6 hb6.size hb7
          have HRE := Lib.hid (rowsE_of_blk (L := two (⟨a, b, c, d⟩, ct)) hk7 (B := w6.heap.size + 1) (by omega))
          have HB7 := Lib.hid (below_trans Hb5.out Hb5.out.size hb67)
          have HO7 := Lib.hid (Hown5.out.below hb67)
          have HR7 := Lib.hid (Hrg5.out.below hb67 Hrg5.out.map.lt Hrg5.out.lt)
          have HS7 := Lib.hid (show ri + 1 ≤ (w6.alloc (.cells #[.int .i64 a, .int .i64 b, .int .i64 c, .int .i64 d, .int .i64 ct, .int .i64 c, .int .i64 d, .int .i64 a, .int .i64 b, .int .i64 0] 133)).heap.size from Nat.le_trans Hs5.out hb67.size)
          clear hk6 hb6 hk7 hb7 hb67
          go_wp2_with (at_builtin; (refine app_rows (e := 133) Ed.cells (fun _ => rfl) (by decide) (bytes := 40) (by decide) infoE rfl Tryz.underlying87 onesE (by rfl) _ _ (by rfl) (ri + 1) _ (D.flatMap two) (by rfl) HO7.out (some ⟨w6.heap.size, 0, none⟩) _ 2 (two (⟨a, b, c, d⟩, ct)) rfl (by rfl) (by simpa using HRE.out) (by have h1 := Hel.out; have h2 : (two (⟨a, b, c, d⟩, ct)).length = 2 := rfl; omega) HS7.out ?_); intro v8 w8 hown8 hg8 hor8; have HO8 := Lib.hid (show OwnR 133 5 Ed.cells w8 (ri + 1) v8 ((D ++ [((⟨a, b, c, d⟩ : P4), ct)]).flatMap two) by rw [List.flatMap_append, List.flatMap_singleton]; exact hown8); have Hg8 := Lib.hid hg8; clear hown8 hg8 hor8)
          have hne : ∀ m, (Value.slice A7 nE c7).ownBlock = some m → ri + 1 ≤ m := fun m hm => (Hown.out.block m hm).1
          have HR8 := Lib.hid (HR7.out.grown Hg8.out (fun e => by have := hne _ e.symm; have := Hri.out; omega) (fun e => by have := hne _ e.symm; omega))
          have HB8 := Lib.hid (show Below w2.heap.size w2 w8 from HB7.out.grown Hg8.out HB7.out.size (fun m hm => by have := hne m hm; have := Hri.out; have := Hbc.out; omega))
          have HS8 := Lib.hid (Nat.le_trans HS7.out Hg8.out.size)
          clear hne
          go_wp2
          go_roundw
          case measure => rw [HR8.out.left_eq, Hrg.out.left_eq]; exact Hmeas.out
          case rel => exact ⟨D ++ [((⟨a, b, c, d⟩ : P4), ct)], P ++ Q, HR8.out, Hperm2.out, HO8.out, HB8.out, HS8.out⟩

end Go.Proofs.YtpnbibokddhheaaGreat

/-
  Layer 20: all leaves: the program's way.
-/
namespace Go.Proofs.YtpnbibokddhheaaGreat
open Go.RowKit Go.Sort Go.Proofs

theorem infoF : (Tryz.prog.info? 99).map (fun i => (i.zero, i.size, i.bytes)) = some (some (.agg #[.int .i64 0, .int .i64 0, .int .i64 0]), 3, 24) := by kernel_rfl
theorem blk4f {w : World} {g : Nat} {t : TypeId} {a b c d : Value} (h : Blk w g t #[a, b, c, d]) : w.cell? ⟨g, 0, none⟩ = some a ∧ w.cell? ⟨g, 1, none⟩ = some b ∧ w.cell? ⟨g, 2, none⟩ = some c ∧ w.cell? ⟨g, 3, none⟩ = some d := ⟨h.cell 0, h.cell 1, h.cell 2, h.cell 3⟩
/-- what lies in memory -/
structure LfSt (w wr : World) (bc : Nat) (v : Value) (O : List Lsa) (T : List (Int × Int × Int)) (M : List (Hp × Int)) : Prop where
  map : MapAt Hp.enc wr bc (intL M)
  cost : CostM wantF M T
  xs : XsAt wr (bc + 1) v O
  bel : Below w.heap.size w wr
theorem LfSt.keep {w wr wr' : World} {bc : Nat} {v : Value} {O : List Lsa} {T : List (Int × Int × Int)} {M : List (Hp × Int)} (h : LfSt w wr bc v O T M) (hb : Below wr.heap.size wr wr') : LfSt w wr' bc v O T M := ⟨h.map.below hb h.map.lt, h.cost, h.xs.keep hb, below_trans h.bel h.bel.size hb⟩
theorem shr4 (x : Int) : x >>> (4 : Nat) = x / 16 := by rw [Int.shiftRight_eq_div_pow]; rfl

set_option maxHeartbeats 16000000 in
set_option maxRecDepth 100000 in
theorem Leaves_any (A : Option Addr) (cap : Nat) (l : List Lsa) (w : World) (hl : RowsAt 9 Lsa.cells w w.heap.size A l) (he : ∀ x ∈ l, RowsAt 4 Lnk.cells w w.heap.size x.ka x.links ∧ RowsAt 1 icell w w.heap.size x.ma x.members) (hlens : ∀ x ∈ l, x.links.length ≤ 1000 ∧ x.members.length ≤ 1000) (hm : l.length ≤ 60) (nn : Nat) (hnn : nn = l.length) :
    Calls Tryz.prog 31 #[.slice A nn cap] w fun r w' => (∃ v, r = .returned v ∧ OwnR 99 3 Lf.cells w' w.heap.size v (leavesV (l.map vX))) ∧ Below w.heap.size w w' := by
  have hmm := @run_makeMap Tryz.prog
  obtain ⟨bc, hbc⟩ : ∃ bc, w.heap.size = bc := ⟨_, rfl⟩
  obtain ⟨wm, hwm⟩ : ∃ wm, w.alloc (.map #[] 0) = wm := ⟨_, rfl⟩
  have hbm := below_new w (.map #[] 0)
  have hmp : MapAt Hp.enc (w.alloc (.map #[] 0)) w.heap.size [] := MapAt.new w
  have hsm : (w.alloc (.map #[] 0)).heap.size = w.heap.size + 1 := by simp
  rw [hwm] at hbm hmp hsm
  rw [hbc] at hmp hsm
  have HCo := Lib.hid (Counts_any A cap l wm ((hl.below hbm).more hbm.size) (fun x hx => ⟨((he x hx).1.below hbm).more hbm.size, ((he x hx).2.below hbm).more hbm.size⟩) hlens (by omega) nn hnn)
  have Hmp := Lib.hid hmp
  have Hbm := Lib.hid hbm
  have Hsm := Lib.hid hsm
  have Hbc := Lib.hid hbc
  clear hl he hlens hnn hbm hmp hsm
  go_enter Tryz.func31, Tryz.ntmps31
  go_wp2_with fail
  clear hmm
  with_reducible refine Calls.mono HCo.out ?_
  rintro r w2 ⟨⟨v1, rfl, O, hx1, hO1⟩, hb1⟩
  obtain ⟨A1, c1, hv1⟩ := hx1.own.shape
  subst hv1
  have hOl : O.length ≤ 60 := by
    have h1 := congrArg List.length hO1
    have h2 := countsV_len (l.map vX)
    rw [List.length_map] at h1 h2
    omega
  have hcn : CntOk (O.map vX) := by rw [hO1]; exact countsV_ok _
  have HS0 := Lib.hid (show LfSt w w2 bc (.slice A1 O.length c1) O [] [] from ⟨Hmp.out.below hb1 Hmp.out.lt, costM_nil wantF_nil, hx1.lower (by rw [Hsm.out]; exact Nat.le_refl _), below_trans Hbm.out Hbm.out.size hb1⟩)
  have HO1 := Lib.hid hO1
  have Hcn := Lib.hid hcn
  clear hx1 hO1 hcn hb1 HCo
  go_wp2
  go_loopw [18] (fun i wr => ∃ (k : Nat) (M : List (Hp × Int)), i = .int .i64 k ∧ k ≤ O.length ∧ LfSt w wr bc (.slice A1 O.length c1) O (leafC ((O.map vX).take k)) M) (fun i _ => O.length - (intOf i).toNat)
  case atStart => exact ⟨0, [], rfl, Nat.zero_le _, HS0.out⟩
  case round =>
    obtain ⟨k, M, rfl, hk, hst⟩ := hrel
    clear HS0
    have HSt := Lib.hid hst
    by_cases hlt : k < O.length
    · obtain ⟨g, o, hA, -, x0, x1, x2, x3, x4, x5, x6, x7, x8⟩ := row_lsa9b (OwnR.rows (C := 9) (cells := Lsa.cells) (fun _ => rfl) hst.xs.own).2 k hlt
      have hkl : (k : Int) < (O.length : Int) := by omega
      have hmem := List.getElem_mem hlt
      have hln := hst.xs.lens O[k] (List.getElem_mem hlt)
      have hmore := leafC_more (O.map vX) (k := k) (by simpa using hlt)
      rw [List.getElem_map] at hmore
      have HA := Lib.hid hA
      rw [hA]
      have Hlt := Lib.hid hlt
      generalize O[k] = x at *
      obtain ⟨⟨y1, y2, y3, y4, y5, y6, y7⟩, ka, kc, ls, ma, mc, ms⟩ := x
      simp only at x0 x1 x2 x3 x4 x5 x6 x7 x8 hln
      change leafC ((O.map vX).take (k + 1)) = leafC ((O.map vX).take k) ++ leafX (⟨y1, y2, y3, y4, y5, y6, y7⟩, ls, ms) ls at hmore
      obtain ⟨nl, hnl⟩ : ∃ nl, ls.length = nl := ⟨_, rfl⟩
      obtain ⟨nm, hnm⟩ : ∃ nm, ms.length = nm := ⟨_, rfl⟩
      rw [hnl] at x7
      rw [hnm] at x8
      have Hmore := Lib.hid hmore
      have Hmem := Lib.hid hmem
      have Hnl := Lib.hid hnl
      obtain ⟨w6, hw6⟩ : ∃ w6, wr.alloc (.cells #[.int .i64 y1, .int .i64 y2, .int .i64 y3, .int .i64 y4, .int .i64 y5, .int .i64 y6, .int .i64 y7, .slice ka nl kc, .slice ma nm mc] 31) = w6 := ⟨_, rfl⟩
      obtain ⟨g6, hg6⟩ : ∃ g6, wr.heap.size = g6 := ⟨_, rfl⟩
      have hk6 := Blk.new wr 31 #[.int .i64 y1, .int .i64 y2, .int .i64 y3, .int .i64 y4, .int .i64 y5, .int .i64 y6, .int .i64 y7, .slice ka nl kc, .slice ma nm mc]
      have hb6 := below_new wr (.cells #[.int .i64 y1, .int .i64 y2, .int .i64 y3, .int .i64 y4, .int .i64 y5, .int .i64 y6, .int .i64 y7, .slice ka nl kc, .slice ma nm mc] 31)
      rw [hw6, hg6] at hk6
      rw [hw6] at hb6
      have HS6 := Lib.hid (hst.keep hb6)
      have HK6 := Lib.hid hk6
      have Hg6 := Lib.hid (show g6 ≠ bc from fun e => by have := hst.map.lt; omega)
      have hnl2 : (nl : Int) ≤ 1000 := by omega
      have hnl3 : nl ≤ 1000 := by omega
      obtain ⟨z0, z1, z2, z3, z4, z5, z6, z7, z8, zf⟩ := blk9 hk6
      clear hnl hnm hA hlt hk6 hb6 hk hst hln hmore hmem
      go_wp2
      clear z0 z1 z2 z3 z4 z5 z6 z7 z8 zf x0 x1 x2 x3 x4 x5 x6 x7 x8
      go_loopw [25] (fun i wq => ∃ (j : Nat) (M : List (Hp × Int)), i = .int .i64 j ∧ j ≤ nl ∧ LfSt w wq bc (.slice A1 O.length c1) O (leafC ((O.map vX).take k) ++ leafX (⟨y1, y2, y3, y4, y5, y6, y7⟩, ls, ms) (ls.take j)) M ∧ Blk wq g6 31 #[.int .i64 y1, .int .i64 y2, .int .i64 y3, .int .i64 y4, .int .i64 y5, .int .i64 y6, .int .i64 y7, .slice ka nl kc, .slice ma nm mc]) (fun i _ => nl - (intOf i).toNat)
      case atStart => exact ⟨0, M, rfl, Nat.zero_le _, by simpa [leafX, HA.out] using HS6.out, HK6.out⟩
      case round =>
        obtain ⟨j, M, rfl, hj, hsq, hkq⟩ := hrel
        clear HS6 HK6 HSt
        by_cases hjl : j < nl
        · have hjl2 : j < ls.length := by have := Hnl.out; omega
          obtain ⟨g', o', hA', -, v0, v1, v2, v3⟩ := row_lnk (hsq.xs.rows _ Hmem.out).1 j hjl2
          simp only at hA'
          have hjk : (j : Int) < (nl : Int) := by omega
          have hmq := leafX_more (⟨y1, y2, y3, y4, y5, y6, y7⟩, ls, ms) hjl2
          have HA' := Lib.hid hA'
          rw [hA']
          have Hjl := Lib.hid hjl
          simp only at v0 v1 v2 v3
          generalize ls[j]'hjl2 = y at *
          obtain ⟨e1, e2, e3, e4⟩ := y
          simp only at v0 v1 v2 v3 hmq
          obtain ⟨T, hT⟩ : ∃ T, leafC ((O.map vX).take k) ++ leafX (⟨y1, y2, y3, y4, y5, y6, y7⟩, ls, ms) (ls.take j) = T := ⟨_, rfl⟩
          have hmq2 : leafC ((O.map vX).take k) ++ leafX (⟨y1, y2, y3, y4, y5, y6, y7⟩, ls, ms) (ls.take (j + 1)) = T ++ if e1 = 3 then [(y4, e2 / 16, e4)] else [] := by rw [hmq, ← hT, List.append_assoc]
          rw [hT] at hsq
          have Hmq := Lib.hid hmq2
          obtain ⟨w8, hw8⟩ : ∃ w8, wr.alloc (.cells #[.int .i64 e1, .int .i64 e2, .int .i64 e3, .int .i64 e4] 152) = w8 := ⟨_, rfl⟩
          obtain ⟨g8, hg8⟩ : ∃ g8, wr.heap.size = g8 := ⟨_, rfl⟩
          have hk8 := Blk.new wr 152 #[.int .i64 e1, .int .i64 e2, .int .i64 e3, .int .i64 e4]
          have hb8 := below_new wr (.cells #[.int .i64 e1, .int .i64 e2, .int .i64 e3, .int .i64 e4] 152)
          rw [hw8, hg8] at hk8
          rw [hw8] at hb8
          have hs8 := hsq.keep hb8
          have hkk8 := hkq.below hb8 hkq.lt
          obtain ⟨w9, hw9⟩ : ∃ w9, w8.alloc (.cells #[.int .i64 (e2 / 16), .int .i64 y4] 95) = w9 := ⟨_, rfl⟩
          obtain ⟨g9, hg9⟩ : ∃ g9, w8.heap.size = g9 := ⟨_, rfl⟩
          have hk9 := Blk.new w8 95 #[.int .i64 (e2 / 16), .int .i64 y4]
          have hb9 := below_new w8 (.cells #[.int .i64 (e2 / 16), .int .i64 y4] 95)
          rw [hw9, hg9] at hk9
          rw [hw9] at hb9
          have HS9 := Lib.hid (hs8.keep hb9)
          have HK9 := Lib.hid (hkk8.below hb9 hkk8.lt)
          have hl9 := hk8.below hb9 hk8.lt
          obtain ⟨z0, z1, z2, z3, z4, z5, z6, z7, z8, zf⟩ := blk9 hkk8
          obtain ⟨q0, q1, q2, q3⟩ := blk4f hk8
          obtain ⟨r0, r1, r2, r3⟩ := blk4f hl9
          obtain ⟨p0, p1⟩ : _ ∧ _ := ⟨hk9.cell 0, hk9.cell 1⟩
          simp only [List.getElem?_toArray, List.getElem?_cons_zero, List.getElem?_cons_succ] at p0 p1
          have hlp := HS9.out.map.look_run keyHp Tryz.underlying164 (zeroI20 _) ⟨e2 / 16, y4⟩ true
          rw [HS9.out.cost.get] at hlp
          have hsh := shr4 e2
          clear hA' hjl hjl2 hmq hmq2 hT hsq hkq hk8 hb8 hs8 hkk8 hk9 hb9 hl9 hj
          cases hw : wantF ⟨e2 / 16, y4⟩ T with
          | none =>
            simp only [if_true, Hp.enc, hw, Option.map, Option.getD, Option.isSome] at hlp
            have Hw := Lib.hid hw
            clear hw
            by_cases h3 : e1 = 3
            · subst h3
              have hmq3 := Hmq.out
              rw [if_pos rfl] at hmq3
              have Hmq3 := Lib.hid hmq3
              clear hmq3
              go_wp2_with (at_mapUpdate; (refine wpList_update_st _ (by rfl) _ _ _ 164 (by rfl) 95 3 keyHp Tryz.underlying164 (by rfl) HS9.out.map ⟨e2 / 16, y4⟩ (by rfl) (.int .i64 e4) (by rfl) ?_); intro w10 hm10 hg10 hs10; rw [setL_int] at hm10; have HSn := Lib.hid (LfSt.mk hm10 (HS9.out.cost.set_ (wantF_snoc y4 (e2 / 16) e4 T) (.inl Hw.out)) (HS9.out.xs.iter hg10 (Nat.lt_succ_self _)) (HS9.out.bel.grown hg10 HS9.out.bel.size (fun m e => by injection e with e; rw [← e, Hbc.out]; exact Nat.le_refl _))); have HKn := Lib.hid (HK9.out.grown hg10 (fun e => Hg6.out (by injection e))); clear hm10 hg10 hs10)
              go_roundw
              case measure => have := Hjl.out; simp [intOf]; omega
              case rel => exact ⟨j + 1, _, by go_num, Hjl.out, by rw [Hmq3.out]; exact HSn.out, by have h := HKn.out; rw [HA'.out] at h; exact h⟩
            · have HSn := Lib.hid (show LfSt w w9 bc (.slice A1 O.length c1) O (leafC ((O.map vX).take k) ++ leafX (⟨y1, y2, y3, y4, y5, y6, y7⟩, ls, ms) (ls.take (j + 1))) M by
                rw [Hmq.out, if_neg h3, List.append_nil]; exact HS9.out)
              go_wp2
              go_roundw
              case measure => have := Hjl.out; simp [intOf]; omega
              case rel => exact ⟨j + 1, M, by go_num, Hjl.out, HSn.out, by have h := HK9.out; rw [HA'.out] at h; exact h⟩
          | some b =>
            simp only [if_true, Hp.enc, hw, Option.map, Option.getD, Option.isSome] at hlp
            have Hw := Lib.hid hw
            clear hw
            by_cases h3 : e1 = 3
            · subst h3
              have hmq3 := Hmq.out
              rw [if_pos rfl] at hmq3
              have Hmq3 := Lib.hid hmq3
              clear hmq3
              by_cases hlt4 : e4 < b
              · go_wp2_with (at_mapUpdate; (refine wpList_update_st _ (by rfl) _ _ _ 164 (by rfl) 95 3 keyHp Tryz.underlying164 (by rfl) HS9.out.map ⟨e2 / 16, y4⟩ (by rfl) (.int .i64 e4) (by rfl) ?_); intro w10 hm10 hg10 hs10; rw [setL_int] at hm10; have HSn := Lib.hid (LfSt.mk hm10 (HS9.out.cost.set_ (wantF_snoc y4 (e2 / 16) e4 T) (.inr ⟨b, Hw.out, hlt4⟩)) (HS9.out.xs.iter hg10 (Nat.lt_succ_self _)) (HS9.out.bel.grown hg10 HS9.out.bel.size (fun m e => by injection e with e; rw [← e, Hbc.out]; exact Nat.le_refl _))); have HKn := Lib.hid (HK9.out.grown hg10 (fun e => Hg6.out (by injection e))); clear hm10 hg10 hs10)
                go_roundw
                case measure => have := Hjl.out; simp [intOf]; omega
                case rel => exact ⟨j + 1, _, by go_num, Hjl.out, by rw [Hmq3.out]; exact HSn.out, by have h := HKn.out; rw [HA'.out] at h; exact h⟩
              · have HSn := Lib.hid (LfSt.mk HS9.out.map (HS9.out.cost.keep (wantF_snoc y4 (e2 / 16) e4 T) ⟨b, Hw.out, hlt4⟩) HS9.out.xs HS9.out.bel)
                go_wp2
                go_roundw
                case measure => have := Hjl.out; simp [intOf]; omega
                case rel => exact ⟨j + 1, M, by go_num, Hjl.out, by rw [Hmq3.out]; exact HSn.out, by have h := HK9.out; rw [HA'.out] at h; exact h⟩
            · have HSn := Lib.hid (show LfSt w w9 bc (.slice A1 O.length c1) O (leafC ((O.map vX).take k) ++ leafX (⟨y1, y2, y3, y4, y5, y6, y7⟩, ls, ms) (ls.take (j + 1))) M by
                rw [Hmq.out, if_neg h3, List.append_nil]; exact HS9.out)
              go_wp2
              go_roundw
              case measure => have := Hjl.out; simp [intOf]; omega
              case rel => exact ⟨j + 1, M, by go_num, Hjl.out, HSn.out, by have h := HK9.out; rw [HA'.out] at h; exact h⟩
        · have hje : j = nl := by omega
          subst hje
          have hls2 : ls.take ls.length = ls := List.take_length
          have hsq2 : LfSt w wr bc (.slice A1 O.length c1) O (leafC ((O.map vX).take (k + 1))) M := by
            rw [Hmore.out]
            rw [← Hnl.out, hls2] at hsq
            exact hsq
          have HSq := Lib.hid hsq2
          have hjk : ¬ (j : Int) < (j : Int) := by omega
          clear hjl hsq hkq hsq2 hls2 hj
          go_wp2
          go_roundw
          case measure => have := Hlt.out; simp [intOf]; omega
          case rel => exact ⟨k + 1, M, by go_num, Hlt.out, by have h := HSq.out; rw [HA.out] at h; exact h⟩
    · have hke : k = O.length := by omega
      subst hke
      have hkl : ¬ (O.length : Int) < (O.length : Int) := by omega
      have hst2 : LfSt w wr bc (.slice A1 O.length c1) O (leafC (O.map vX)) M := by
        have h := hst
        rw [show (O.map vX).take O.length = O.map vX from by rw [← List.length_map (f := vX), List.take_length]] at h
        exact h
      have HSE := Lib.hid hst2
      have hMl : M.length ≤ 60000 := by
        have h1 := hst2.cost.len
        have h2 := leafC_len (m := 1000) (O.map vX) (fun x hx => by
          obtain ⟨y, hy, rfl⟩ := List.mem_map.1 hx
          exact (hst2.xs.lens y hy).1)
        rw [List.length_map] at h2
        omega
      have hnd : (M.map (·.1)).Nodup := by rw [← intL_keys]; exact hst2.map.nodup
      have Hnd := Lib.hid hnd
      obtain ⟨ri, hri⟩ : ∃ ri, wr.heap.size = ri := ⟨_, rfl⟩
      have Hri := Lib.hid (show bc < ri by have := hst2.map.lt; omega)
      have Hri2 := Lib.hid hri
      clear hst hst2 hlt hk HSt hnd
      go_wp2_with (at_range; refine wpList_range_st _ rfl _ 164 rfl 95 3 Tryz.underlying164 rfl HSE.out.map ?_; intro w3 hr3 hb3 hs3; rw [Hri2.out] at hr3; have HR3 := Lib.hid hr3; have Hb3 := Lib.hid (below_trans HSE.out.bel HSE.out.bel.size hb3); have Hs3 := Lib.hid (show w3.heap.size = ri + 1 by rw [hs3, Hri2.out]); clear hr3 hb3 hs3)
      go_loopw [11] (fun v wr => ∃ D R, RangeAt Hp.enc wr bc ri (intL M) (intL R) ∧ (D ++ R).Perm M ∧ OwnR 99 3 Lf.cells wr (ri + 1) v (D.map one) ∧ Below w.heap.size w wr ∧ ri + 1 ≤ wr.heap.size) (fun _ wr => wr.rangeLeft bc ri)
      case atStart => exact ⟨[], M, HR3.out, by rw [List.nil_append], OwnR.nil _ _, Hb3.out, by rw [Hs3.out]; exact Nat.le_refl _⟩
      case round =>
        obtain ⟨D, R, hrg, hperm, hown, hb, hsz⟩ := hrel
        obtain ⟨A7, c7, hv7⟩ := hown.shape
        subst hv7
        have hDl : D.length ≤ 60000 := by
          have h1 := hperm.length_eq
          rw [List.length_append] at h1
          omega
        have hEl : (D.map one).length ≤ 60000 := by rw [List.length_map]; omega
        have Hel := Lib.hid hEl
        obtain ⟨nE, hnE⟩ : ∃ nE, (D.map one).length = nE := ⟨_, rfl⟩
        rw [hnE] at hown ⊢
        have HnE := Lib.hid hnE
        have Hrg := Lib.hid hrg
        have Hperm := Lib.hid hperm
        have Hown := Lib.hid hown
        have Hb := Lib.hid hb
        have Hsz := Lib.hid hsz
        clear hrg hperm hown hb hsz HR3 Hb3 hEl hnE
        go_wp2_with (at_next; refine wpList_next_st _ rfl _ rfl keyHp.inj rfl Hrg.out ?_ ?_)
        · intro h0
          have hR0 : R = [] := by simpa [intL] using h0
          subst hR0
          clear h0
          have hperm := Hperm.out
          rw [List.append_nil] at hperm
          have hnd : (D.map (·.1)).Nodup := ((hperm.map _).nodup_iff).2 Hnd.out
          have HS := Lib.hid (fun W hO => sortFs (.slice A7 nE c7) (D.map one) (ri + 1) W hO (by have := Hel.out; omega) (leaves_apart hnd))
          have Hp := Lib.hid hperm
          clear hperm hnd
          go_wp2_with (go_at_call 71; (with_reducible refine Calls.mono (HS.out _ Hown.out) ?_); rintro r w4 ⟨rfl, ⟨N, hown4, hpN, hsN⟩, hg4⟩; have HO4 := Lib.hid hown4; have HN := Lib.hid (leaves_laid Hcn.out HSE.out.cost Hnd.out Hp.out hpN hsN); have Hg4 := Lib.hid hg4; clear hown4 hg4 hpN hsN)
          obtain ⟨A8, c8, hv8⟩ := HO4.out.shape
          go_ret
          have hE : leavesV (l.map vX) = N := by rw [HN.out]; unfold leavesV; rw [HO1.out]
          refine ⟨⟨_, rfl, ?_⟩, ?_⟩
          · rw [hE]
            exact HO4.out.lower (by have := Hri.out; have := Hbc.out; omega)
          · have h1 := Hb.out
            exact h1.grown Hg4.out h1.size (fun m e => by have := (Hown.out.block m e).1; have := Hri.out; have := Hbc.out; omega)
        · intro pre e ev post w5 hsplit hrg5 hg5 hs5 hen
          obtain ⟨P, ⟨⟨a, b⟩, ct⟩, Q, hR, rfl, rfl, he⟩ := intL_split hsplit
          injection he with he1 he2
          subst he1 he2
          rw [intL_append] at hrg5
          have hmeas : (intL (P ++ Q)).length < (intL R).length := by rw [hR]; simp [intL]
          have hperm2 : (D ++ [((⟨a, b⟩ : Hp), ct)] ++ (P ++ Q)).Perm M := by
            refine List.Perm.trans ?_ Hperm.out
            rw [hR, List.append_assoc]
            refine List.Perm.append_left D ?_
            rw [List.singleton_append]
            exact List.perm_middle.symm
          have Hmeas := Lib.hid hmeas
          have Hperm2 := Lib.hid hperm2
          have Hrg5 := Lib.hid hrg5
          have Hb5 := Lib.hid (show Below w.heap.size w w5 from Hb.out.grown hg5 Hb.out.size (fun m e => by injection e with e; have := Hri.out; have := Hbc.out; omega))
          have Hown5 := Lib.hid (Hown.out.kept hg5 (by
            cases hv : (Value.slice A7 nE c7).ownBlock with
            | none => exact .inl rfl
            | some m => right; intro e; injection e with e; have := (Hown.out.block m hv).1; omega))
          have Hs5 := Lib.hid (show ri + 1 ≤ w5.heap.size by rw [hs5]; exact Hsz.out)
          clear hsplit hrg5 hg5 hs5 hR hmeas hperm2
          unfold Hp.enc at hen
          simp only at hen
          obtain ⟨w6, hw6⟩ : ∃ w6, w5.alloc (.cells #[.int .i64 a, .int .i64 b] 95) = w6 := ⟨_, rfl⟩
          obtain ⟨g6, hg6⟩ : ∃ g6, w5.heap.size = g6 := ⟨_, rfl⟩
          have hk6 := Blk.new w5 95 #[.int .i64 a, .int .i64 b]
          have hb6 := below_new w5 (.cells #[.int .i64 a, .int .i64 b] 95)
          rw [hw6, hg6] at hk6
          rw [hw6] at hb6
          obtain ⟨p0, p1⟩ : _ ∧ _ := ⟨hk6.cell 0, hk6.cell 1⟩
          simp only [List.getElem?_toArray, List.getElem?_cons_zero, List.getElem?_cons_succ] at p0 p1
          have hb7 := below_new w6 (.cells #[.int .i64 b, .int .i64 a, .int .i64 ct] 99)
          have hb67 := below_trans hb6 hb6.size hb7
          have HB7 := Lib.hid (below_trans Hb5.out Hb5.out.size hb67)
          have HO7 := Lib.hid (Hown5.out.below hb67)
          have HR7 := Lib.hid (Hrg5.out.below hb67 Hrg5.out.map.lt Hrg5.out.lt)
          have HS7 := Lib.hid (show ri + 1 ≤ (w6.alloc (.cells #[.int .i64 b, .int .i64 a, .int .i64 ct] 99)).heap.size from Nat.le_trans Hs5.out hb67.size)
          clear hk6 hb6 hb7 hb67
          go_wp2_with (at_builtin; (refine app_row (e := 99) Lf.cells (fun _ => rfl) (by decide) (bytes := 24) (by decide) infoF rfl Tryz.underlying96 onesF (by rfl) _ _ (by rfl) (ri + 1) _ (D.map one) (by rfl) HO7.out w6.heap.size ⟨b, a, ct⟩ (by rfl) (Blk.new _ _ _) (by have h1 := Hel.out; omega) HS7.out ?_); intro v8 w8 hown8 hg8 hor8; have HO8 := Lib.hid (show OwnR 99 3 Lf.cells w8 (ri + 1) v8 ((D ++ [((⟨a, b⟩ : Hp), ct)]).map one) by rw [List.map_append, List.map_singleton]; exact hown8); have Hg8 := Lib.hid hg8; clear hown8 hg8 hor8)
          have hne : ∀ m, (Value.slice A7 nE c7).ownBlock = some m → ri + 1 ≤ m := fun m hm => (Hown.out.block m hm).1
          have HR8 := Lib.hid (HR7.out.grown Hg8.out (fun e => by have := hne _ e.symm; have := Hri.out; omega) (fun e => by have := hne _ e.symm; omega))
          have HB8 := Lib.hid (show Below w.heap.size w w8 from HB7.out.grown Hg8.out HB7.out.size (fun m hm => by have := hne m hm; have := Hri.out; have := Hbc.out; omega))
          have HS8 := Lib.hid (Nat.le_trans HS7.out Hg8.out.size)
          clear hne
          go_wp2
          go_roundw
          case measure => rw [HR8.out.left_eq, Hrg.out.left_eq]; exact Hmeas.out
          case rel => exact ⟨D ++ [((⟨a, b⟩ : Hp), ct)], P ++ Q, HR8.out, Hperm2.out, HO8.out, HB8.out, HS8.out⟩

end Go.Proofs.YtpnbibokddhheaaGreat
