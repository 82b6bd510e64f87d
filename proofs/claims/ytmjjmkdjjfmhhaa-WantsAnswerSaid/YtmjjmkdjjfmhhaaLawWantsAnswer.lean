/-
  The law WantsAnswer: its walk.
-/
import Derived.Test.YtmjjmkdjjfmhhaaRdPut
import Derived.Test.YtmjjmkdjjfmhhaaRdBase
import Derived.Test.YtmjjmkdjjfmhhaaWnAns
import Derived.Test.YtmjjmkdjjfmhhaaLsMany
namespace Go.Proofs.Ytmjjmkdjjfmhhaa
open Go.RowKit Go.Sort

set_option maxHeartbeats 8000000 in
set_option maxRecDepth 100000 in
theorem wantsAnswer_any (A : Option Addr) (cap : Nat) (l : List Lsa) (A2 : Option Addr) (cap2 : Nat) (ks : List K3) (w : World) (hl : LsasAt w w.heap.size A l) (hm : l.length ≤ maxLen) (hk : RowsAt 3 K3.cells w w.heap.size A2 ks) (hm2 : ks.length ≤ maxLen) :
    Calls Try.prog 7 #[.slice A l.length cap, .slice A2 ks.length cap2] w fun r w' => r = .returned (.bool true) ∧ Below w.heap.size w w' := by
  have HL := Lib.hid hl
  have HK := Lib.hid hk
  obtain ⟨t, ht⟩ : ∃ t, manyB 60 l = t := ⟨_, rfl⟩
  have HMany := Lib.hid (fun W (hW : Below w.heap.size w W) => many15 A cap l W w.heap.size (hl.rows.below hW) hW.size hm l.length rfl ht)
  have Ht := Lib.hid ht
  have hm' : (l.length : Int) ≤ 9223372036854775807 := by unfold maxLen at hm; omega
  have hm2' : (ks.length : Int) ≤ 9223372036854775807 := by unfold maxLen at hm2; omega
  clear hl hm ht hk hm2
  go_enter Try.func7, Try.ntmps7
  go_wp2_with fail
  with_reducible refine Calls.mono (wakes15 _) ?_
  rintro r w1 ⟨rfl, hb1⟩
  have Hb1 := Lib.hid hb1
  clear hb1
  go_wp2_with fail
  with_reducible refine Calls.mono (HMany.out _ Hb1.out) ?_
  rintro r w2 ⟨rfl, hb2⟩
  have Hb2 := Lib.hid (below_trans Hb1.out Hb1.out.size hb2)
  clear hb2
  cases t with
  | true =>
    go_wp2
    go_ret
    exact ⟨rfl, Hb2.out⟩
  | false =>
    obtain ⟨hl60, hlens⟩ := manyB_lens Ht.out
    have Hlens := Lib.hid hlens
    clear hlens
    by_cases hk60 : (60 : Int) < (ks.length : Int)
    · go_wp2
      go_ret
      exact ⟨rfl, Hb2.out⟩
    · have hks : ks.length ≤ 60 := by omega
      go_wp2_with fail
      with_reducible refine Calls.mono (DbNew 40 _) ?_
      rintro r w3 ⟨rfl, hd3, hb3⟩
      obtain ⟨p, hp⟩ : ∃ p, w2.heap.size + 1 = p := ⟨_, rfl⟩
      obtain ⟨b, hb⟩ : ∃ b, w2.heap.size = b := ⟨_, rfl⟩
      rw [show min (max (40 : Int) 1) 40 = 40 by decide, hp, hb] at hd3
      rw [hp]
      have Hd3 := Lib.hid hd3
      have Hb3 := Lib.hid (below_trans Hb2.out Hb2.out.size hb3)
      have hbw : w.heap.size ≤ b := by rw [← hb]; exact Hb2.out.size
      clear hb3 hd3 hp hb
      go_wp2_with fail
      with_reducible refine Calls.mono (RdNew40 _) ?_
      rintro r w4 ⟨rfl, hr4, hb4⟩
      obtain ⟨q, hq⟩ : ∃ q, w3.heap.size = q := ⟨_, rfl⟩
      have hpq : p < q := by rw [← hq]; exact Hd3.out.ptr.lt
      rw [hq] at hr4
      rw [hq]
      have HB0 := Lib.hid (show BK w w4 p b q [] (.slice none 0 0) [] from ⟨below_trans Hb3.out Hb3.out.size hb4, Hd3.out.keep hb4, hr4, DEq.nil, by simp, hbw, by rw [← hq]; exact Hb3.out.size, by omega, by intro x hx; cases hx⟩)
      clear hr4 hb4 hq hpq hbw
      go_wp2
      go_loopw [28] (fun i wr => ∃ (k : Nat) (M L : List Lsa) (v : Value), i = .int .i64 k ∧ k ≤ l.length ∧ BK w wr p b q M v L) (fun i _ => l.length - (intOf i).toNat)
      case atStart => exact ⟨0, [], [], _, rfl, Nat.zero_le _, HB0.out⟩
      case round =>
        obtain ⟨k, M, L, v, rfl, hk, hbk⟩ := hrel
        have HBk := Lib.hid hbk
        clear HB0
        by_cases hlt : k < l.length
        · obtain ⟨g, o, hA, -, x0, x1, x2, x3, x4, x5, x6, x7, x8⟩ := row_lsa9 (HL.out.rows.below hbk.bel) k hlt
          have hok := HL.out.each l[k] (List.getElem_mem hlt)
          have hln := Hlens.out l[k] (List.getElem_mem hlt)
          have hkl : (k : Int) < (l.length : Int) := by omega
          have HA := Lib.hid hA
          rw [hA]
          have Hlt := Lib.hid hlt
          generalize l[k] = x at *
          obtain ⟨⟨y1, y2, y3, y4, y5, y6, y7⟩, ka, kc, ls, ma, mc, ms⟩ := x
          have hls := hok.links
          have hms := hok.members
          simp only at x0 x1 x2 x3 x4 x5 x6 x7 x8 hln hls hms
          obtain ⟨nl, hnl⟩ : ∃ nl, nl = ls.length := ⟨_, rfl⟩
          obtain ⟨nm, hnm⟩ : ∃ nm, nm = ms.length := ⟨_, rfl⟩
          rw [← hnl] at x7
          rw [← hnm] at x8
          obtain ⟨w8, hw8⟩ : ∃ w8, wr.alloc (.cells #[.int .i64 y1, .int .i64 y2, .int .i64 y3, .int .i64 y4, .int .i64 y5, .int .i64 y6, .int .i64 y7, .slice ka nl kc, .slice ma nm mc] 27) = w8 := ⟨_, rfl⟩
          have hb8 := below_new wr (.cells #[.int .i64 y1, .int .i64 y2, .int .i64 y3, .int .i64 y4, .int .i64 y5, .int .i64 y6, .int .i64 y7, .slice ka nl kc, .slice ma nm mc] 27)
          have hk8 := Blk.new wr 27 #[.int .i64 y1, .int .i64 y2, .int .i64 y3, .int .i64 y4, .int .i64 y5, .int .i64 y6, .int .i64 y7, .slice ka nl kc, .slice ma nm mc]
          rw [hw8] at hb8 hk8
          have hb8k := hbk.keep hb8
          have HB8 := Lib.hid hb8k
          have hl8 := hls.below hb8k.bel
          have hm8 := hms.below hb8k.bel
          have HP := Lib.hid (dbPut_any p b M y1 y2 y3 y4 y5 y6 y7 ka kc ls ma mc ms w8 hb8k.db (hl8.more hb8k.bel.size) (hm8.more hb8k.bel.size) (by omega) (by omega) nl nm hnl hnm)
          have HR := Lib.hid (fun W (hR : RdAt W q 40 v L) (hW : Below w.heap.size w W) => rdPut_any q v L y1 y2 y3 y4 y5 y6 y7 ka kc ls ma mc ms W hR w.heap.size hb8k.lq (hls.below hW) (hms.below hW) (by omega) (by omega) nl nm hnl hnm (by have := hb8k.eq.len; have := hb8k.le; omega) hb8k.eq.sorted)
          have Hk8 := Lib.hid hk8
          have hgx : ¬ wr.heap.size = b := by have := blk_nemap4 hk8 hb8k.db.map; exact this
          have hgx := Lib.hid hgx
          obtain ⟨z0, z1, z2, z3, z4, z5, z6, z7, z8, zf⟩ := blk9 hk8
          clear hls hms hln hok hnl hnm hA hlt hbk hk hb8 hk8 hb8k hl8 hm8
          go_wp2_with fail
          with_reducible refine Calls.mono HP.out ?_
          rintro r w9 ⟨hr9, ⟨M', hP9, hd9⟩, hg9⟩
          obtain ⟨e9, rfl⟩ := hr9
          obtain ⟨hrd9, hnext⟩ := HB8.out.put hP9 hd9 hg9
          have hk9 := Hk8.out.grown hg9 (fun e => hgx.out (by injection e))
          have hb9 : Below w.heap.size w w9 := HB8.out.bel.grown hg9 HB8.out.bel.size (fun k e => by injection e with e; subst e; exact HB8.out.lb)
          have HR9 := Lib.hid (HR.out w9 hrd9 hb9)
          have Hnext := Lib.hid hnext
          clear hP9 hd9 hg9 hrd9 hnext hb9 z0 z1 z2 z3 z4 z5 z6 z7 z8 zf
          obtain ⟨z0, z1, z2, z3, z4, z5, z6, z7, z8, zf⟩ := blk9 hk9
          clear hk9
          go_wp2_with fail
          with_reducible refine Calls.mono HR9.out ?_
          rintro r w10 ⟨hr10, ⟨L', v', hP10, hd10⟩, hg10⟩
          obtain ⟨e10, rfl⟩ := hr10
          have HB10 := Lib.hid (Hnext.out w10 v' L' hP10 hd10 hg10)
          clear hP10 hd10 hg10 z0 z1 z2 z3 z4 z5 z6 z7 z8 zf
          go_wp2
          go_roundw
          case measure => have := Hlt.out; simp [intOf]; omega
          case rel => exact ⟨k + 1, M', L', v', by go_num, Hlt.out, HB10.out⟩
        · have hkl : ¬ (k : Int) < (l.length : Int) := by omega
          clear hlt hbk hk
          obtain ⟨wz, rfl⟩ : ∃ wz : World, wz = wr := ⟨_, rfl⟩
          obtain ⟨t2, ht2⟩ : ∃ t2, ks.all (foundB M) = t2 := ⟨_, rfl⟩
          have HAn := Lib.hid (Answer_any p b 40 M A2 cap2 ks wz w.heap.size HBk.out.db (HK.out.below HBk.out.bel) HBk.out.bel.size (by omega) ks.length rfl ht2)
          have Ht2 := Lib.hid ht2
          clear ht2
          go_wp2_with fail
          with_reducible refine Calls.mono HAn.out ?_
          rintro r w5 ⟨vg, rfl, ⟨O, hxO, hvO⟩, hb5⟩
          have HB5 := Lib.hid (HBk.out.keep hb5)
          obtain ⟨Ag, cg, hvg⟩ := hxO.own.shape
          obtain ⟨ng, hng⟩ : ∃ ng, O.length = ng := ⟨_, rfl⟩
          rw [hng] at hvg
          subst hvg
          have HxO := Lib.hid hxO
          have HvO := Lib.hid hvO
          have Hng := Lib.hid hng
          have hL40 : L.length ≤ 40 := by have := HBk.out.eq.len; have := HBk.out.le; omega
          have hqz : q < w5.heap.size := HB5.out.rd.ptr.lt
          clear hb5 hxO hvO hng
          go_wp2
          go_loopw [11, 47] (fun o i wq => ∃ (j : Nat) (Wn : List Lsa), i = .int .i64 j ∧ j ≤ ks.length ∧ (ks.take j).all (foundB M) = true ∧ Wn.map vX = (ks.take j).map (gotV M) ∧ XsAt wq 0 o Wn ∧ (∀ m, o.ownBlock = some m → w5.heap.size ≤ m) ∧ Below w5.heap.size w5 wq) (fun _ i _ => ks.length - (intOf i).toNat)
          case atStart => exact ⟨0, [], rfl, Nat.zero_le _, rfl, rfl, XsAt.nil _ _, (by intro m e; cases e), Below.refl _ _⟩
          case round =>
            obtain ⟨j, Wn, rfl, hj, hall, hW, hxs, hnew, hb⟩ := hrel
            obtain ⟨A6, c6, hv6⟩ := hxs.own.shape
            subst hv6
            have hWl : Wn.length ≤ j := by have := congrArg List.length hW; rw [List.length_map, List.length_map, List.length_take] at this; omega
            have HW := Lib.hid hW
            have Hall := Lib.hid hall
            have Hxs := Lib.hid hxs
            have Hnew := Lib.hid hnew
            have Hb := Lib.hid hb
            have HBr := Lib.hid (HB5.out.keep hb)
            by_cases hjt : j < ks.length
            · obtain ⟨g2, o2, hA2, -, x0, x1, x2⟩ := row_k3b (HK.out.below HBr.out.bel) j hjt
              have HA2 := Lib.hid hA2
              rw [hA2]
              have hjl : (j : Int) < (ks.length : Int) := by omega
              have hsn := List.take_succ_eq_append_getElem hjt
              have hmem := List.getElem_mem hjt
              have Hjt := Lib.hid hjt
              have hWl2 : Wn.length ≤ 60 := by omega
              generalize ks[j] = kk at *
              obtain ⟨k1, k2, k3⟩ := kk
              simp only at x0 x1 x2
              obtain ⟨w8, hw8⟩ : ∃ w8, wr.alloc (.cells #[.int .i64 k1, .int .i64 k2, .int .i64 k3] 39) = w8 := ⟨_, rfl⟩
              have hb8 := below_new wr (.cells #[.int .i64 k1, .int .i64 k2, .int .i64 k3] 39)
              have hk8 := Blk.new wr 39 #[.int .i64 k1, .int .i64 k2, .int .i64 k3]
              rw [hw8] at hb8 hk8
              obtain ⟨z, hz⟩ : ∃ z, findX ⟨k1, k2, k3⟩ L = z := ⟨_, rfl⟩
              have HF := Lib.hid (rdFind q 40 v L k1 k2 k3 w8 (HBr.out.keep hb8).rd (by omega) hz)
              have Hfind := Lib.hid (HB5.out.eq.find ⟨k1, k2, k3⟩)
              rw [hz] at Hfind
              have Hb8 := Lib.hid (below_trans hb hb.size hb8)
              have Hx8 := Lib.hid (hxs.keep hb8)
              obtain ⟨q0, q1, q2⟩ : _ ∧ _ ∧ _ := ⟨hk8.cell 0, hk8.cell 1, hk8.cell 2⟩
              simp only [List.getElem?_toArray, List.getElem?_cons_zero, List.getElem?_cons_succ] at q0 q1 q2
              have Hsn := Lib.hid hsn
              have Hmem := Lib.hid hmem
              clear hall hW hxs hnew hb hWl hsn hmem hb8 hk8 hjt hA2 hz
              go_wp2_with fail
              with_reducible refine Calls.mono HF.out ?_
              rintro r w9 ⟨rfl, hb9⟩
              have Hb9 := Lib.hid (below_trans Hb8.out Hb8.out.size hb9)
              have Hx9 := Lib.hid (Hx8.out.keep hb9)
              clear hb9 q0 q1 q2
              rcases Hfind.out with ⟨hg, hz, -⟩ | ⟨a, jj, hjj, hg, hz, -, hva, -⟩
              · have hno : ks.all (foundB M) = false := by
                  rw [List.all_eq_false]
                  exact ⟨⟨k1, k2, k3⟩, Hmem.out, by unfold foundB; rw [hg]; decide⟩
                obtain rfl : t2 = false := by rw [← Ht2.out]; exact hno
                obtain rfl : ng = 0 := by
                  have h0 := HvO.out
                  rw [← Hng.out]
                  have := congrArg List.length h0
                  simpa [ansL] using this
                have hz0 : decide (z < 0) = true := decide_eq_true hz
                have HBz := Lib.hid (HB5.out.keep Hb9.out)
                clear hno hg hz
                go_wp2
                go_ret
                exact ⟨rfl, HBz.out.bel⟩
              · have hz0 : decide (z < 0) = false := decide_eq_false (by omega)
                subst hz
                have hgv : gotV M ⟨k1, k2, k3⟩ = vX L[jj] := by rw [gotV_some hg, hva]
                have Hfo := Lib.hid (show foundB M ⟨k1, k2, k3⟩ = true by unfold foundB; rw [hg]; rfl)
                obtain ⟨g3, c3, hv3, z0, z1, z2, z3, z4, z5, z6, z7, z8⟩ := row_at (HB5.out.keep Hb9.out).rd.xs.own jj hjj
                subst hv3
                have hcp := (HB5.out.keep Hb9.out).rd.cell.1
                have hmem := List.getElem_mem hjj
                have hX5 := HB5.out.rd.xs.rows _ hmem
                have hX9 := (HB5.out.keep Hb9.out).rd.xs.rows _ hmem
                have hXl := HB5.out.rd.xs.lens _ hmem
                have hjn : (jj : Int) < (L.length : Int) := by omega
                have hj0 : (0 : Int) ≤ (jj : Int) := by omega
                clear hg hva hmem
                generalize L[jj] = e at *
                have hfar : farX (.slice A6 Wn.length c6) e := ⟨fun a ea h0 e2 => by have := row_lt2 hX5.1 ea h0; have := Hnew.out _ e2; omega, fun a ea h0 e2 => by have := row_lt2 hX5.2 ea h0; have := Hnew.out _ e2; omega⟩
                obtain ⟨⟨e1, e2, e3, e4, e5, e6, e7⟩, xa, xc, xs, ya, yc, ys⟩ := e
                simp only at z0 z1 z2 z3 z4 z5 z6 z7 z8 hXl
                obtain ⟨ln, hln⟩ : ∃ ln, xs.length = ln := ⟨_, rfl⟩
                obtain ⟨yn, hyn⟩ : ∃ yn, ys.length = yn := ⟨_, rfl⟩
                rw [hln] at z7
                rw [hyn] at z8
                have HX := Lib.hid (show rowsX w9 ⟨⟨e1, e2, e3, e4, e5, e6, e7⟩, xa, xc, xs, ya, yc, ys⟩ ∧ farX (.slice A6 Wn.length c6) ⟨⟨e1, e2, e3, e4, e5, e6, e7⟩, xa, xc, xs, ya, yc, ys⟩ ∧ fromX 0 ⟨⟨e1, e2, e3, e4, e5, e6, e7⟩, xa, xc, xs, ya, yc, ys⟩ ∧ (xs.length ≤ 1000 ∧ ys.length ≤ 1000) from ⟨hX9, hfar, ⟨fun _ _ _ => Nat.zero_le _, fun _ _ _ => Nat.zero_le _⟩, hXl⟩)
                have Hall2 := Lib.hid (show (ks.take (j + 1)).all (foundB M) = true by rw [Hsn.out, List.all_append, Hall.out]; simp [Hfo.out])
                have HW2 := Lib.hid (show (Wn ++ [(⟨⟨e1, e2, e3, e4, e5, e6, e7⟩, xa, xc, xs, ya, yc, ys⟩ : Lsa)]).map vX = (ks.take (j + 1)).map (gotV M) by
                  rw [Hsn.out, List.map_append, List.map_append, HW.out, List.map_singleton, List.map_singleton, hgv])
                have Hbk := Lib.hid (show Blk (w9.alloc (.cells #[.int .i64 e1, .int .i64 e2, .int .i64 e3, .int .i64 e4, .int .i64 e5, .int .i64 e6, .int .i64 e7, .slice xa ln xc, .slice ya yn yc] 27)) w9.heap.size 27 (Lsa.cells ⟨⟨e1, e2, e3, e4, e5, e6, e7⟩, xa, xc, xs, ya, yc, ys⟩).toArray by unfold Lsa.cells; simp only; rw [hln, hyn]; exact Blk.new _ _ _)
                have Hba := Lib.hid (below_new w9 (.cells #[.int .i64 e1, .int .i64 e2, .int .i64 e3, .int .i64 e4, .int .i64 e5, .int .i64 e6, .int .i64 e7, .slice xa ln xc, .slice ya yn yc] 27))
                clear hX5 hX9 hXl hfar hgv hln hyn
                go_wp2_with (at_builtin; (refine app_row Lsa.cells (fun _ => rfl) (by decide) (bytes := 104) (by decide) infoX rfl Try.underlying35 onesX (by rfl) _ _ (by rfl) 0 _ Wn (by rfl) (Hx9.out.own.below Hba.out) w9.heap.size ⟨⟨e1, e2, e3, e4, e5, e6, e7⟩, xa, xc, xs, ya, yc, ys⟩ (by rfl) Hbk.out (by omega) (Nat.zero_le _) ?_); intro v6 w6 hown6 hg6 hor6; have Hx6 := Lib.hid ((Hx9.out.keep Hba.out).app hown6 hg6 hor6 (HX.out.1.keep Hba.out) HX.out.2.1 HX.out.2.2.1 HX.out.2.2.2); have Hn6 := Lib.hid (own_new Hnew.out hor6 (Nat.le_trans Hb9.out.size Hba.out.size)); have Hb6 := Lib.hid ((below_trans Hb9.out Hb9.out.size Hba.out).grown hg6 (Nat.le_trans Hb9.out.size Hba.out.size) (fun m hm => Hnew.out m hm)); clear hown6 hg6 hor6)
                go_roundw
                case measure => have := Hjt.out; simp [intOf]; omega
                case rel => exact ⟨j + 1, _, by go_num, Hjt.out, Hall2.out, HW2.out, Hx6.out, Hn6.out, Hb6.out⟩
            · have hjj : j = ks.length := by omega
              rw [hjj, List.take_length] at hall hW
              obtain rfl : t2 = true := by rw [← Ht2.out]; exact hall
              have hkl2 : ¬ (j : Int) < (ks.length : Int) := by omega
              have hvv : O.map vX = Wn.map vX := by rw [hW, HvO.out]; exact if_pos rfl
              have hxO := HxO.out.keep hb
              have hOl : O.length ≤ 60 := by rw [vX_len hvv]; omega
              have hown1 := hxO.own
              rw [← Hng.out] at hown1
              have HS := Lib.hid (refSame7 Ag A6 cg c6 O Wn wr (OwnR.rows (C := 9) (cells := Lsa.cells) (fun _ => rfl) hown1).2 (OwnR.rows (C := 9) (cells := Lsa.cells) (fun _ => rfl) hxs.own).2 hxO.rows hxs.rows hxO.lens hvv (by omega) ng Wn.length Hng.out.symm rfl)
              clear hall hW hxs hnew hb hWl hvv hxO hown1 hOl hjj hjt
              go_wp2_with fail
              with_reducible refine Calls.mono HS.out ?_
              rintro r w9 ⟨rfl, hb9⟩
              have HBz := Lib.hid (HBr.out.keep hb9)
              clear hb9
              go_wp2
              go_ret
              exact ⟨rfl, HBz.out.bel⟩

end Go.Proofs.Ytmjjmkdjjfmhhaa
