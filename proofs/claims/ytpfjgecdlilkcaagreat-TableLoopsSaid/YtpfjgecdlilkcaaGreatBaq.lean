/-
  Layer 21: the document's Tree (its walk; under way).
-/
import Derived.Deep.CutRange
import Derived.Test.YtpfjgecdlilkcaaGreatBag
import Derived.Test.YtpfjgecdlilkcaaGreatBan
import Derived.Test.YtpfjgecdlilkcaaGreatBap
namespace Go.Proofs.YtpfjgecdlilkcaaGreat
open Go.RowKit

set_option maxHeartbeats 16000000 in
set_option maxRecDepth 100000 in
theorem refTree_any (ri : Int) (A : Option Addr) (cap : Nat) (E : List Ed) (w : World) (hE : RowsAt 5 Ed.cells w w.heap.size A E) (hlen : E.length ≤ 4000) (n : Nat) (hn : n = E.length) (DD : Vx → Vx → Option Val2) (hD : Dists E DD) (hm : mayV ⟨1, ri⟩ = true) :
    Calls Tryz.prog 22 #[.int .i64 ri, .slice A n cap] w fun r w' => (∃ v N, r = .returned v ∧ NodesAt w' w.heap.size v N ∧ TreeIs E DD ⟨1, ri⟩ (N.map NodeM.nk)) ∧ Below w.heap.size w w' := by
  subst hn
  have HE := Lib.hid hE
  have HD := Lib.hid hD
  have Hm := Lib.hid hm
  have Hlen := Lib.hid hlen
  have hlen' : (E.length : Int) ≤ 4000 := by omega
  have hb0 := below_new w (.cells #[.int .i64 1, .int .i64 ri] 61)
  have hk0 := Blk.new w 61 #[.int .i64 1, .int .i64 ri]
  obtain ⟨w0, hw0⟩ : ∃ w0, w.alloc (.cells #[.int .i64 1, .int .i64 ri] 61) = w0 := ⟨_, rfl⟩
  obtain ⟨g5, hg5⟩ : ∃ g, w.heap.size = g := ⟨_, rfl⟩
  rw [hw0] at hb0 hk0
  rw [hg5] at hk0
  have Hb0 := Lib.hid hb0
  have HK0 := Lib.hid hk0
  have HMay := Lib.hid (fun W => refMay_any 1 ri W hm)
  have HC := Lib.hid (fun k1 k2 W (hk : mayV ⟨k1, k2⟩ = true) (hW : Below w.heap.size w W) => refCosts_any A cap E k1 k2 W ((HE.out.below hW).more hW.size) Hlen.out hk E.length rfl)
  obtain ⟨z0, z1, -, -⟩ := hk0.cells2
  clear hE hD hm hlen hb0 hk0
  go_enter Tryz.func22, Tryz.ntmps22
  go_wp2_with fail
  with_reducible refine Calls.mono (HMay.out _) ?_
  rintro r w1 ⟨rfl, hb1⟩
  have HK1 := Lib.hid (HK0.out.below hb1 HK0.out.lt)
  have Hb1 := Lib.hid (below_trans Hb0.out Hb0.out.size hb1)
  clear hb1 hw0 hg5 z0 z1
  obtain ⟨z0, z1, -, -⟩ := HK1.out.cells2
  go_wp2_with fail
  with_reducible refine Calls.mono (HC.out _ _ _ Hm.out Hb1.out) ?_
  rintro r w2 ⟨⟨v, rfl, hown⟩, hb2⟩
  obtain ⟨R, hR⟩ : ∃ R, iterR E 200 [((⟨1, ri⟩ : Vx), (⟨0, 0⟩ : Val2))] = R := ⟨_, rfl⟩
  rw [hR] at hown
  have hok := RowsOk.iter (E := E) 200 (RowsOk.start E Hm.out)
  rw [hR] at hok
  have HRl := Lib.hid hok.len
  have Hnd := Lib.hid hok.keys
  have HR := Lib.hid hR
  obtain ⟨A6, c6, hv⟩ := hown.shape
  subst hv
  obtain ⟨nR, hnR⟩ : ∃ n, R.length = n := ⟨_, rfl⟩
  rw [hnR] at hown ⊢
  have HnR := Lib.hid hnR
  have hnR2 : (nR : Int) ≤ 79 := by have := HRl.out; omega
  have hrows := (OwnR.rows (C := 4) (cells := rcells) (fun _ => rfl) hown).2
  have Hrows := Lib.hid (fun W (hW : Below w2.heap.size w2 W) => (hrows.below hW).more hW.size)
  have Hb2 := Lib.hid (below_trans Hb1.out Hb1.out.size hb2)
  have HK2 := Lib.hid (HK1.out.below hb2 HK1.out.lt)
  have hmk := fun w => (made_next w 0 nR (by omega)).1
  have hN3 := (made_next w2 (w2.heap.size + 1) nR (by omega)).2
  have hb3 := below_new w2 (.cells (madeCells #[.slice none 0 0] nR) 29)
  obtain ⟨w3, hw3⟩ : ∃ v, w2.alloc (.cells (madeCells #[.slice none 0 0] nR) 29) = v := ⟨_, rfl⟩
  obtain ⟨gx, hgx⟩ : ∃ v, w2.heap.size = v := ⟨_, rfl⟩
  rw [hw3, hgx] at hN3
  rw [hw3] at hb3
  have HN3 := Lib.hid hN3
  have Hb3 := Lib.hid hb3
  have Hgx := Lib.hid hgx
  clear hown hrows hok hR hnR hb2 z0 z1 HMay hN3 hb3
  go_wp2_with fail
  clear hmk hw3 hgx
  go_loopw [8] (fun i wr => ∃ (k : Nat) (N : List (List Hp)), i = .int .i64 k ∧ k ≤ E.length ∧ Below w2.heap.size w2 wr ∧ NextAt wr (gx + 1) gx N ∧ HopsOf R N (HopA E DD ⟨1, ri⟩ (E.take k))) (fun i _ => E.length - (intOf i).toNat)
  case atStart => exact ⟨0, _, rfl, Nat.zero_le _, Hb3.out, HN3.out, by rw [← HnR.out]; exact hopA_start⟩
  case round =>
    obtain ⟨k, N, rfl, hk, hb, hN, hH⟩ := hrel
    have hkr := HK2.out.below hb HK2.out.lt
    by_cases hlt : k < E.length
    · have hki : (k : Int) < (E.length : Int) := by omega
      obtain ⟨g', o', hA', -, x0, x1, x2, x3, x4⟩ := row_ed ((HE.out.below (below_trans Hb2.out Hb2.out.size hb)).more (below_trans Hb2.out Hb2.out.size hb).size) k hlt
      have hmem : E[k] ∈ E := List.getElem_mem hlt
      have htk : E.take (k + 1) = E.take k ++ [E[k]] := List.take_succ_eq_append_getElem hlt
      have Hlt := Lib.hid hlt
      generalize E[k] = x at *
      obtain ⟨e1, e2, e3, e4, e5⟩ := x
      simp only at x0 x1 x2 x3 x4
      obtain ⟨t, ht⟩ : ∃ t, cntE ⟨e1, e2, e3, e4, e5⟩ = t := ⟨_, rfl⟩
      have Ht := Lib.hid ht
      have HCnt := Lib.hid (fun W => refCnt_any e1 e2 e3 e4 e5 W ht)
      have Hmem := Lib.hid hmem
      have Htk := Lib.hid htk
      have hb6 := below_new wr (.cells #[.int .i64 e1, .int .i64 e2, .int .i64 e3, .int .i64 e4, .int .i64 e5] 96)
      have hk6 := Blk.new wr 96 #[.int .i64 e1, .int .i64 e2, .int .i64 e3, .int .i64 e4, .int .i64 e5]
      obtain ⟨w6, hw6⟩ : ∃ w6, wr.alloc (.cells #[.int .i64 e1, .int .i64 e2, .int .i64 e3, .int .i64 e4, .int .i64 e5] 96) = w6 := ⟨_, rfl⟩
      obtain ⟨g6, hg6⟩ : ∃ g6, wr.heap.size = g6 := ⟨_, rfl⟩
      have hg6x : g6 ≠ gx := by have := hN.lt; omega
      have Hg6x := Lib.hid hg6x
      have Hge : Hid (w2.heap.size ≤ gx) := Lib.hid (by have := Hgx.out; omega)
      clear hg6x
      rw [hw6, hg6] at hk6
      rw [hw6] at hb6
      have Hb6 := Lib.hid (below_trans hb hb.size hb6)
      have HN6 := Lib.hid (hN.below hb6)
      have Hk6 := Lib.hid hk6
      have HK6 := Lib.hid (hkr.below hb6 hkr.lt)
      have HH := Lib.hid hH
      obtain ⟨z0, z1, z2, z3, z4, -⟩ := hk6.cells5
      subst hA'
      clear hmem htk ht hb hN hH hkr hb6 hk6 hlt hk
      go_wp2_with fail
      with_reducible refine Calls.mono (HCnt.out _) ?_
      rintro r w7 ⟨rfl, hb7⟩
      have Hb7 := Lib.hid (below_trans Hb6.out Hb6.out.size hb7)
      have HN7 := Lib.hid (HN6.out.below hb7)
      have Hk7 := Lib.hid (Hk6.out.below hb7 Hk6.out.lt)
      have HK7 := Lib.hid (HK6.out.below hb7 HK6.out.lt)
      clear hb7 x0 x1 x2 x3 x4 z0 z1 z2 z3 z4 hw6 hg6 HCnt
      cases t with
      | false =>
        have Hskip := Lib.hid (hopA_skip HH.out (e := ⟨e1, e2, e3, e4, e5⟩) (fun h => by rw [Ht.out] at h; cases h.1))
        go_wp2
        go_roundw
        case measure => have := Hlt.out; simp [intOf]; omega
        case rel => exact ⟨k + 1, N, by go_num, Hlt.out, Hb7.out, HN7.out, by rw [Htk.out]; exact Hskip.out⟩
      | true =>
        obtain ⟨z0, z1, z2, z3, z4, -⟩ := Hk7.out.cells5
        obtain ⟨r0, r1, -, -⟩ := HK7.out.cells2
        have hne := fun w => neqVxN e1 e2 1 ri w
        by_cases hs : (⟨e1, e2⟩ : Vx) = ⟨1, ri⟩
        · rw [decide_eq_true hs] at hne
          have Hs := Lib.hid hs
          obtain ⟨b, hb, -⟩ := (HD.out ⟨1, ri⟩).closed _ Hmem.out Ht.out ⟨0, 0⟩ (by rw [show (⟨e1, e2, e3, e4, e5⟩ : Ed).src = ⟨1, ri⟩ from hs]; exact (HD.out _).root)
          have hget : getR R ⟨e3, e4⟩ = some b := by rw [← HR.out, costs_dist (HD.out ⟨1, ri⟩)]; exact hb
          obtain ⟨j, hj, hfx, -, hRj⟩ := fix_some hget
          have hjn : j < nR := by rw [← HnR.out]; exact hj
          have HF := Lib.hid (refFind_any A6 c6 R e3 e4 w7 ((Hrows.out w7 Hb7.out)) (by have := HRl.out; omega) nR HnR.out.symm hfx)
          have Hj := Lib.hid hj
          have HRj := Lib.hid hRj
          clear hs hb hget hfx hRj
          go_wp2_with fail
          with_reducible refine Calls.mono HF.out ?_
          rintro r w8 ⟨rfl, hb8⟩
          have Hb8 := Lib.hid (below_trans Hb7.out Hb7.out.size hb8)
          have HN8 := Lib.hid (HN7.out.below hb8)
          have Hk8 := Lib.hid (Hk7.out.below hb8 Hk7.out.lt)
          have HK8 := Lib.hid (HK7.out.below hb8 HK7.out.lt)
          have hwr : ∃ b' o', A6 = some ⟨b', o', none⟩ ∧ w8.cell? ⟨b', o' + j * 4 + 2, none⟩ = some (.int .i64 b.c) := by
            obtain ⟨b', o', h1, -, -, -, h2, -⟩ := row_rw (Hrows.out w8 Hb8.out) j hj
            rw [HRj.out] at h2
            exact ⟨b', o', h1, h2⟩
          obtain ⟨b6, o6, hA6, y2⟩ := hwr
          subst hA6
          have hji : (j : Int) < (nR : Int) := by omega
          obtain ⟨cj, hcj⟩ : ∃ c : Int, (b.c : Int) = c := ⟨_, rfl⟩
          rw [hcj] at y2
          have Hcj := Lib.hid hcj
          clear hb8 z0 z1 z2 z3 z4 r0 r1 hne hcj HF
          obtain ⟨z0, z1, z2, z3, z4, -⟩ := Hk8.out.cells5
          have hjw : IntKind.i64.wrap (j : Int) = j := by rw [IntKind.wrap_i64]; omega
          obtain ⟨hlan1, hlan2, htk⟩ := dst_lan (e := ⟨e1, e2, e3, e4, e5⟩) (r := ⟨1, ri⟩) rfl Ht.out Hs.out
          have Htk2 := Lib.hid htk
          obtain ⟨lan, htd⟩ : ∃ q, Int.tdiv e4 16 = q := ⟨_, rfl⟩
          have hlan : lan = e4 / 16 := by rw [← htd]; exact Int.tdiv_eq_ediv_of_nonneg hlan1
          have hwt : wrap64 lan = lan := by unfold wrap64; simp only at hlan1 hlan2; omega
          have hwt2 : IntKind.i64.wrap lan = lan := by rw [IntKind.wrap_i64]; simp only at hlan1 hlan2; omega
          have Hlan := Lib.hid hlan
          have hlN : N.length = nR := by rw [← HnR.out]; exact HH.out.len
          have hjN : j < N.length := by rw [hlN]; exact hjn
          have HjN := Lib.hid hjN
          have Hsmall := Lib.hid (HH.out.low fun v c x hx => hopA_ok rfl hx)
          obtain ⟨An, nn, cn, hcw, hnn, hOn⟩ := HN8.out.cellW hjN
          have Hcw := Lib.hid hcw
          have Hnn := Lib.hid hnn
          have HOn := Lib.hid hOn
          clear hlan1 hlan2 htk hlN hlan hcw hnn hOn
          have hjNi : (j : Int) < (nR : Int) := by omega
          go_wp2
          go_quiet (fail)
          go_upto_if 61 with fail
          go_cut [8] from 31 to 145 (fun iv wx => iv = .int .i64 k ∧ Below w2.heap.size w2 wx ∧ Blk wx g6 96 #[.int .i64 e1, .int .i64 e2, .int .i64 e3, .int .i64 e4, .int .i64 e5] ∧ ∃ N', NextAt wx (gx + 1) gx N' ∧ HopsOf R N' (HopB E DD ⟨1, ri⟩ (E.take k) ⟨e1, e2, e3, e4, e5⟩ []))
          case first =>
            skip
            by_cases hc : cj = e5
            · have c1 : (cj == e5) = true := by simp [hc]
              have hcost : (R[j]'Hj.out).2.c = (⟨e1, e2, e3, e4, e5⟩ : Ed).cost.toNat := by rw [HRj.out]; have := Hcj.out; simp only; omega
              have h1 := hopB_first (e := ⟨e1, e2, e3, e4, e5⟩) HH.out Hnd.out Ht.out Hs.out Hj.out (by rw [HRj.out]; rfl) hcost
              rw [show (⟨(⟨e1, e2, e3, e4, e5⟩ : Ed).ti / 16, 0⟩ : Hp) = ⟨lan, 0⟩ by rw [Hlan.out]] at h1
              have Hfirst := Lib.hid h1
              clear hc hcost h1
              go_wp2_with fail
              refine wp_region_F (F := fun W => Below w8.heap.size w8 W) (n := 13) (m := 14) (s := #[false, false, false, false, false, false, false, false, false, false, false, false, false, false]) (by kernel_rfl) (by kernel_rfl) (by kernel_rfl) ?_
              intro wd hwd
              have hF : Below w8.heap.size w8 wd := by rw [hwd.out]; exact (below_drewN (Below.refl _ _) _).drew
              clear hwd
              refine F_take (i := 0) (d := some 62) (by kernel_rfl) (by kernel_rfl) (by decide) (s' := #[true, false, false, false, false, false, false, false, false, false, false, false, false, false]) (by kernel_rfl) rfl rfl (by kernel_rfl) (by kernel_rfl) (by kernel_rfl) (fun _ _ _ h => h) (Or.inl ⟨by kernel_rfl, fun W hW => by go_simp; try with_reducible rfl⟩) hF ?_
              go_frame
              refine F_take (i := 1) (d := some 63) (by kernel_rfl) (by kernel_rfl) (by decide) (s' := #[true, true, false, false, false, false, false, false, false, false, false, false, false, false]) (by kernel_rfl) rfl rfl (by kernel_rfl) (by kernel_rfl) (by kernel_rfl) (fun _ _ _ h => h) (Or.inl ⟨by kernel_rfl, fun W hW => by go_simp; try with_reducible rfl⟩) hF ?_
              go_frame
              refine F_take (i := 2) (d := some 64) (by kernel_rfl) (by kernel_rfl) (by decide) (s' := #[true, true, true, false, false, false, false, false, false, false, false, false, false, false]) (by kernel_rfl) rfl rfl (by kernel_rfl) (by kernel_rfl) (by kernel_rfl) (fun _ _ _ h => h) (Or.inl ⟨by kernel_rfl, fun W hW => by go_simp; try with_reducible rfl⟩) hF ?_
              go_frame
              refine F_take (i := 3) (d := some 65) (by kernel_rfl) (by kernel_rfl) (by decide) (s' := #[true, true, true, true, false, false, false, false, false, false, false, false, false, false]) (by kernel_rfl) rfl rfl (by kernel_rfl) (by kernel_rfl) (by kernel_rfl) (fun _ _ _ h => h) (Or.inl ⟨by kernel_rfl, fun W hW => by go_simp; try with_reducible rfl⟩) hF ?_
              go_frame
              refine F_take (i := 4) (d := some 66) (by kernel_rfl) (by kernel_rfl) (by decide) (s' := #[true, true, true, true, true, false, false, false, false, false, false, false, false, false]) (by kernel_rfl) rfl rfl (by kernel_rfl) (by kernel_rfl) (by kernel_rfl) (fun _ _ _ h => h) (Or.inl ⟨by kernel_rfl, fun W hW => by go_simp; try with_reducible rfl⟩) hF ?_
              go_frame
              refine F_take (i := 5) (d := some 67) (by kernel_rfl) (by kernel_rfl) (by decide) (s' := #[true, true, true, true, true, true, false, false, false, false, false, false, false, false]) (by kernel_rfl) rfl rfl (by kernel_rfl) (by kernel_rfl) (by kernel_rfl) (fun _ _ _ h => h) (Or.inl ⟨by kernel_rfl, fun W hW => by obtain ⟨d0, -⟩ := Hcw.out W hW; go_simp; try with_reducible rfl⟩) hF ?_
              go_frame
              refine F_take (i := 6) (d := some 68) (by kernel_rfl) (by kernel_rfl) (by decide) (s' := #[true, true, true, true, true, true, true, false, false, false, false, false, false, false]) (by kernel_rfl) rfl rfl (by kernel_rfl) (by kernel_rfl) (by kernel_rfl) (fun _ _ _ h => h) (Or.inl ⟨by kernel_rfl, fun W hW => by go_simp; try with_reducible rfl⟩) hF ?_
              go_frame
              refine F_take (i := 7) (d := some 69) (by kernel_rfl) (by kernel_rfl) (by decide) (s' := #[true, true, true, true, true, true, true, true, false, false, false, false, false, false]) (by kernel_rfl) rfl rfl (by kernel_rfl) (by kernel_rfl) (by kernel_rfl) (fun _ _ _ h => h) (Or.inl ⟨by kernel_rfl, fun W hW => by go_simp; try with_reducible rfl⟩) hF ?_
              go_frame
              refine F_take (i := 8) (d := some 70) (by kernel_rfl) (by kernel_rfl) (by decide) (s' := #[true, true, true, true, true, true, true, true, true, false, false, false, false, false]) (by kernel_rfl) rfl rfl (by kernel_rfl) (by kernel_rfl) (by kernel_rfl) (fun _ _ _ h => h) (Or.inl ⟨by kernel_rfl, fun W hW => by obtain ⟨z0, z1, z2, z3, z4, -⟩ := (Hk8.out.below hW Hk8.out.lt).cells5; go_simp; try with_reducible rfl⟩) hF ?_
              go_frame
              refine F_take (i := 9) (d := some 71) (by kernel_rfl) (by kernel_rfl) (by decide) (s' := #[true, true, true, true, true, true, true, true, true, true, false, false, false, false]) (by kernel_rfl) rfl rfl (by kernel_rfl) (by kernel_rfl) (by kernel_rfl) (fun _ _ _ h => h) (Or.inl ⟨by kernel_rfl, fun W hW => by go_simp; try with_reducible rfl⟩) hF ?_
              go_frame
              refine F_take (i := 10) (d := some 72) (by kernel_rfl) (by kernel_rfl) (by decide) (s' := #[true, true, true, true, true, true, true, true, true, true, true, false, false, false]) (by kernel_rfl) rfl rfl (by kernel_rfl) (by kernel_rfl) (by kernel_rfl) (fun _ _ _ h => h) (Or.inl ⟨by kernel_rfl, fun W hW => by go_simp; try with_reducible rfl⟩) hF ?_
              go_frame
              have hgd : gx + 1 ≤ wd.heap.size := by have := HN8.out.lt; have := hF.size; omega
              refine F_one (i := 11) (s' := #[true, true, true, true, true, true, true, true, true, true, true, true, false, false]) (by kernel_rfl) (by kernel_rfl) (wpOp_enterL (i := 11) (d := some 73) (f := 53) (args := #[.slice An nn cn, .agg #[.int .i64 lan, .int .i64 0]]) rfl rfl (by kernel_rfl) (by go_simp) ((refAdd_own _ _ An cn nn (gx + 1) _ wd (HOn.out.below hF) hgd (Nat.le_trans (Hsmall.out _ (List.getElem_mem HjN.out)) (by decide)) Hnn.out).mono ?_))
              rintro r wa ⟨⟨A', n', c', rfl, hoa⟩, hba⟩
              have hF := below_trans hF hF.size hba
              refine ⟨_, rfl, fun _ => hF, ?_⟩
              go_frame
              clear hba hgd
              refine F_take (i := 12) (d := some 74) (by kernel_rfl) (by kernel_rfl) (by decide) (s' := #[true, true, true, true, true, true, true, true, true, true, true, true, true, false]) (by kernel_rfl) rfl rfl (by kernel_rfl) (by kernel_rfl) (by kernel_rfl) (fun _ _ _ h => h) (Or.inl ⟨by kernel_rfl, fun W hW => by go_simp; try with_reducible rfl⟩) hF ?_
              go_frame
              obtain ⟨d0, f0⟩ := Hcw.out wa hF
              obtain ⟨wz, hwz⟩ : ∃ v, wa.setCell ⟨gx, j, none⟩ (.slice A' n' c') = v := ⟨_, rfl⟩
              have hNz := (HN8.out.below hF).put (Nat.lt_succ_self _) HjN.out hoa
              rw [hwz] at hNz
              have hkz := (Hk8.out.below hF Hk8.out.lt).far (p := ⟨gx, j, none⟩) Hg6x.out (.slice A' n' c')
              rw [hwz] at hkz
              have hbz := (below_trans Hb8.out Hb8.out.size hF).setCell (p := ⟨gx, j, none⟩) Hge.out (.slice A' n' c')
              rw [hwz] at hbz
              refine F_one (i := 13) (s' := #[true, true, true, true, true, true, true, true, true, true, true, true, true, true]) (by kernel_rfl) (by kernel_rfl) (wpOp_skipL (i := 13) (w' := wz) rfl rfl (by kernel_rfl) (by go_simp) ⟨fun h => absurd h (by decide), ?_⟩)
              go_frame
              refine F_done (by kernel_rfl) ?_ _
              have HNz := Lib.hid hNz
              have Hbz := Lib.hid hbz
              have Hkz := Lib.hid hkz
              clear hNz hbz hwz d0 f0 hF hoa hkz
              go_wp2
              go_meet
              case rel => exact ⟨rfl, Hbz.out, Hkz.out, _, HNz.out, Hfirst.out⟩
            · have c1 : (cj == e5) = false := by simp [hc]
              have hcost : (R[j]'Hj.out).2.c ≠ (⟨e1, e2, e3, e4, e5⟩ : Ed).cost.toNat := by rw [HRj.out]; have := Hcj.out; have := (cost_le Ht.out).2.1; simp only at this ⊢; omega
              have Hnone := Lib.hid (hopB_none (e := ⟨e1, e2, e3, e4, e5⟩) HH.out Hnd.out Hj.out (by rw [HRj.out]; rfl) hcost)
              clear hc hcost
              go_wp2
              go_meet
              case rel => exact ⟨rfl, below_drewN Hb8.out _, (Hk8.out.below (below_drewN (Below.refl _ _) _) Hk8.out.lt), _, HN8.out.below (below_drewN (Below.refl _ _) _), Hnone.out⟩
          case rest =>
            obtain ⟨rfl, hb9, hk9, N9, hN9, hH9⟩ := hcut
            obtain ⟨w9, rfl⟩ : ∃ w9 : World, w9 = wc := ⟨_, rfl⟩
            have Hb9 := Lib.hid hb9
            have Hk9 := Lib.hid hk9
            have HN9 := Lib.hid hN9
            have HH9 := Lib.hid hH9
            obtain ⟨bb, hbb⟩ : ∃ x, x = b := ⟨_, rfl⟩
            clear hb9 hk9 hN9 hH9 y2 z0 z1 z2 z3 z4 Hb8 HN8 Hk8 HK8 Hb7 HN7 Hk7 HK7 Hb6 HN6 Hk6 HK6 Hcw HOn Hnn Hsmall HH
            have hge3 := Hge.out
            go_wp2_with fail
            clear hbb
            go_loopw [11] (fun i2 wr => ∃ (k2 : Nat) (N : List (List Hp)), i2 = .int .i64 k2 ∧ k2 ≤ E.length ∧ Below w2.heap.size w2 wr ∧ Blk wr g6 96 #[.int .i64 e1, .int .i64 e2, .int .i64 e3, .int .i64 e4, .int .i64 e5] ∧ NextAt wr (gx + 1) gx N ∧ HopsOf R N (HopB E DD ⟨1, ri⟩ (E.take k) ⟨e1, e2, e3, e4, e5⟩ (E.take k2))) (fun i2 _ => E.length - (intOf i2).toNat)
            case atStart => exact ⟨0, N9, rfl, Nat.zero_le _, Hb9.out, Hk9.out, HN9.out, HH9.out⟩
            case round =>
              obtain ⟨k2, N, rfl, hk2, hb, hke, hN, hH⟩ := hrel
              by_cases hlt2 : k2 < E.length
              · have hki : (k2 : Int) < (E.length : Int) := by omega
                obtain ⟨g', o', hA', -, x0, x1, x2, x3, x4⟩ := row_ed ((HE.out.below (below_trans Hb2.out Hb2.out.size hb)).more (below_trans Hb2.out Hb2.out.size hb).size) k2 hlt2
                have htk2 : E.take (k2 + 1) = E.take k2 ++ [E[k2]] := List.take_succ_eq_append_getElem hlt2
                have Hlt2 := Lib.hid hlt2
                generalize E[k2] = x at *
                obtain ⟨f1, f2, f3, f4, f5⟩ := x
                simp only at x0 x1 x2 x3 x4
                obtain ⟨t2, ht2⟩ : ∃ t, cntE ⟨f1, f2, f3, f4, f5⟩ = t := ⟨_, rfl⟩
                have Ht2 := Lib.hid ht2
                have HCnt2 := Lib.hid (fun W => refCnt_any f1 f2 f3 f4 f5 W ht2)
                have HtkF := Lib.hid htk2
                have hbq := below_new wr (.cells #[.int .i64 f1, .int .i64 f2, .int .i64 f3, .int .i64 f4, .int .i64 f5] 96)
                have hkq := Blk.new wr 96 #[.int .i64 f1, .int .i64 f2, .int .i64 f3, .int .i64 f4, .int .i64 f5]
                obtain ⟨wq, hwq⟩ : ∃ w6, wr.alloc (.cells #[.int .i64 f1, .int .i64 f2, .int .i64 f3, .int .i64 f4, .int .i64 f5] 96) = w6 := ⟨_, rfl⟩
                obtain ⟨gq, hgq⟩ : ∃ g6, wr.heap.size = g6 := ⟨_, rfl⟩
                have hgqx : gq ≠ gx := by have := hN.lt; omega
                rw [hwq, hgq] at hkq
                rw [hwq] at hbq
                have Hbq := Lib.hid (below_trans hb hb.size hbq)
                have HNq := Lib.hid (hN.below hbq)
                have Hkq := Lib.hid hkq
                have Hkeq := Lib.hid (hke.below hbq hke.lt)
                have HH := Lib.hid hH
                have Hgqx := Lib.hid hgqx
                obtain ⟨z0, z1, z2, z3, z4, -⟩ := hkq.cells5
                cases hA'
                clear htk2 ht2 hb hN hH hke hbq hkq hlt2 hk2 hgqx
                go_wp2_with fail
                with_reducible refine Calls.mono (HCnt2.out _) ?_
                rintro r ws ⟨rfl, hbs⟩
                have Hbs := Lib.hid (below_trans Hbq.out Hbq.out.size hbs)
                have HNs := Lib.hid (HNq.out.below hbs)
                have Hks := Lib.hid (Hkq.out.below hbs Hkq.out.lt)
                have Hkes := Lib.hid (Hkeq.out.below hbs Hkeq.out.lt)
                clear hbs x0 x1 x2 x3 x4 z0 z1 z2 z3 z4 hwq hgq HCnt2 Hbq HNq Hkq Hkeq
                cases t2 with
                | false =>
                  have Hskip := Lib.hid (hopB_skip HH.out (f := ⟨f1, f2, f3, f4, f5⟩) (fun h => by rw [Ht2.out] at h; cases h.1))
                  go_wp2
                  go_roundw
                  case measure => have := Hlt2.out; simp [intOf]; omega
                  case rel => exact ⟨k2 + 1, N, by go_num, Hlt2.out, Hbs.out, Hkes.out, HNs.out, by rw [HtkF.out]; exact Hskip.out⟩
                | true =>
                  obtain ⟨z0, z1, z2, z3, z4, -⟩ := Hks.out.cells5
                  obtain ⟨y0, y1, y2, y3, y4, -⟩ := Hkes.out.cells5
                  have hne2 := fun w => neqVxN f1 f2 e3 e4 w
                  by_cases hs2 : (⟨f1, f2⟩ : Vx) = ⟨e3, e4⟩
                  · rw [decide_eq_true hs2] at hne2
                    have Hs2 := Lib.hid hs2
                    have hmf : mayV ⟨f3, f4⟩ = true := (cntE_iff.1 Ht2.out).2.1
                    have Hmf := Lib.hid hmf
                    clear hs2 hmf
                    go_wp2_with fail
                    with_reducible refine Calls.mono (HC.out _ _ _ Hmf.out (below_trans Hb2.out Hb2.out.size Hbs.out)) ?_
                    rintro r wu ⟨⟨v, rfl, hown⟩, hbu⟩
                    obtain ⟨Rr, hRr⟩ : ∃ R, iterR E 200 [((⟨f3, f4⟩ : Vx), (⟨0, 0⟩ : Val2))] = R := ⟨_, rfl⟩
                    rw [hRr] at hown
                    have hokr := RowsOk.iter (E := E) 200 (RowsOk.start E Hmf.out)
                    rw [hRr] at hokr
                    have HRrl := Lib.hid hokr.len
                    have HRr := Lib.hid hRr
                    have hDr : ∀ v, getR Rr v = DD ⟨f3, f4⟩ v := fun v => by rw [← HRr.out]; exact costs_dist (HD.out ⟨f3, f4⟩) v
                    have HDr := Lib.hid hDr
                    obtain ⟨Au, cu, hv⟩ := hown.shape
                    subst hv
                    obtain ⟨nu, hnu⟩ : ∃ n, Rr.length = n := ⟨_, rfl⟩
                    rw [hnu] at hown ⊢
                    have Hnu := Lib.hid hnu
                    have hgxu : gx + 1 ≤ ws.heap.size := HNs.out.lt
                    have hownx := OwnR.lower hown hgxu
                    have Hown := Lib.hid hownx
                    have Hbu := Lib.hid (below_trans Hbs.out Hbs.out.size hbu)
                    have HNu := Lib.hid (HNs.out.below hbu)
                    have Hku := Lib.hid (Hks.out.below hbu Hks.out.lt)
                    have Hkeu := Lib.hid (Hkes.out.below hbu Hkes.out.lt)
                    have HH3 := Lib.hid (hopC_start (f := ⟨f1, f2, f3, f4, f5⟩) HH.out)
                    clear hown hownx hokr hRr hDr hnu hgxu hbu z0 z1 z2 z3 z4 y0 y1 y2 y3 y4 hne2 Hbs HNs Hks Hkes HH
                    obtain ⟨wu2, hwu2⟩ : ∃ x : World, x = wr := ⟨_, rfl⟩
                    go_wp2_with fail
                    clear hwu2
                    go_loopw [14] (fun i3 wr => ∃ (j : Nat) (N : List (List Hp)), i3 = .int .i64 j ∧ j ≤ R.length ∧ Below w2.heap.size w2 wr ∧ Blk wr g6 96 #[.int .i64 e1, .int .i64 e2, .int .i64 e3, .int .i64 e4, .int .i64 e5] ∧ Blk wr gq 96 #[.int .i64 f1, .int .i64 f2, .int .i64 f3, .int .i64 f4, .int .i64 f5] ∧ OwnRw wr (gx + 1) (.slice Au nu cu) Rr ∧ NextAt wr (gx + 1) gx N ∧ HopsOf R N (HopC E DD ⟨1, ri⟩ (E.take k) ⟨e1, e2, e3, e4, e5⟩ (E.take k2) ⟨f1, f2, f3, f4, f5⟩ ((R.take j).map (·.1)))) (fun i3 _ => R.length - (intOf i3).toNat)
                    case atStart => exact ⟨0, N, rfl, Nat.zero_le _, Hbu.out, Hkeu.out, Hku.out, Hown.out, HNu.out, HH3.out⟩
                    case round =>
                      obtain ⟨j3, N, rfl, hj3, hb, hke, hkf, hown, hN, hH⟩ := hrel
                      have hlN : N.length = R.length := hH.len
                      by_cases hlt3 : j3 < R.length
                      · have hji : (j3 : Int) < (nR : Int) := by have := HnR.out; omega
                        obtain ⟨p', o', hA', -, r0, r1, r2, r3⟩ := row_rw (Hrows.out wr hb) j3 hlt3
                        have Hlt3 := Lib.hid hlt3
                        have htk3 : (R.take (j3 + 1)).map (·.1) = (R.take j3).map (·.1) ++ [R[j3].1] := by rw [List.take_succ_eq_append_getElem hlt3, List.map_append]; rfl
                        have HtkR := Lib.hid htk3
                        obtain ⟨⟨⟨v1, v2⟩, ⟨rc, rh⟩⟩, hrow⟩ : ∃ x, R[j3]'hlt3 = x := ⟨_, rfl⟩
                        rw [hrow] at r0 r1 r2 r3
                        simp only at r0 r1 r2 r3
                        have Hrow := Lib.hid hrow
                        have hjN : j3 < N.length := by rw [hlN]; exact hlt3
                        have HjN := Lib.hid hjN
                        have Hsmall := Lib.hid (hH.low fun v c x hx => hopC_ok rfl hx)
                        have HH := Lib.hid hH
                        have hrc : rc ≤ 100000000 := by
                          have h1 : getR R ⟨v1, v2⟩ = some ⟨rc, rh⟩ := get_at Hnd.out hlt3 hrow
                          rw [← HR.out, costs_dist (HD.out ⟨1, ri⟩)] at h1
                          exact (dist_low HD.out (Hlen.out) h1).1
                        obtain ⟨cR, hcR⟩ : ∃ c : Int, (rc : Int) = c := ⟨_, rfl⟩
                        rw [hcR] at r2
                        have HcR := Lib.hid hcR
                        have Hb := Lib.hid hb
                        have HN := Lib.hid hN
                        have Hke := Lib.hid hke
                        have Hkf := Lib.hid hkf
                        have Hown := Lib.hid hown
                        have hrr := (OwnR.rows (C := 4) (cells := rcells) (fun _ => rfl) hown).2
                        have Hrr := Lib.hid hrr
                        cases hA'
                        obtain ⟨z, hz⟩ : ∃ z, fixV Rr ⟨v1, v2⟩ = z := ⟨_, rfl⟩
                        have HF := Lib.hid (refFind_any Au cu Rr v1 v2 wr hrr (by have := HRrl.out; omega) nu Hnu.out.symm hz)
                        have Hz := Lib.hid hz
                        have he5 := (cost_le Ht.out).2.1
                        simp only at he5
                        have He5 := Lib.hid he5
                        clear hb hN hke hkf hown hH hjN hlN htk3 hrow hcR hrr hz hj3 he5
                        go_wp2_with fail
                        with_reducible refine Calls.mono HF.out ?_
                        rintro r wv ⟨rfl, hbv⟩
                        have Hbv := Lib.hid (below_trans Hb.out Hb.out.size hbv)
                        have HNv := Lib.hid (HN.out.below hbv)
                        have Hkev := Lib.hid (Hke.out.below hbv Hke.out.lt)
                        have Hkfv := Lib.hid (Hkf.out.below hbv Hkf.out.lt)
                        have Hownv := Lib.hid (OwnR.below Hown.out hbv)
                        clear hbv r0 r1 r2 r3 HF
                        cases hg : getR Rr ⟨v1, v2⟩ with
                        | none =>
                          have hz1 : z = -1 := by rw [← Hz.out]; exact fix_none hg
                          have Hnot := Lib.hid (hopC_not (f := ⟨f1, f2, f3, f4, f5⟩) HH.out Hnd.out Hlt3.out (fun b hb => by have hb' : DD ⟨f3, f4⟩ (R[j3]'Hlt3.out).1 = some b := hb; rw [Hrow.out, ← HDr.out, hg] at hb'; cases hb'))
                          subst hz1
                          clear hg
                          go_wp2
                          go_quiet (fail)
                          go_wp2
                          go_roundw
                          case measure => have := Hlt3.out; simp [intOf]; omega
                          case rel => exact ⟨j3 + 1, N, by go_num, Hlt3.out, below_drewN Hbv.out _, Hkev.out.below (below_drewN (Below.refl _ _) _) Hkev.out.lt, Hkfv.out.below (below_drewN (Below.refl _ _) _) Hkfv.out.lt, OwnR.below Hownv.out (below_drewN (Below.refl _ _) _), HNv.out.below (below_drewN (Below.refl _ _) _), by rw [HtkR.out]; exact Hnot.out⟩
                        | some b3 =>
                          obtain ⟨jx, hjx, hfx, -, hRx⟩ := fix_some hg
                          have hz1 : z = (jx : Int) := by rw [← Hz.out]; exact hfx
                          have hbd : DD ⟨f3, f4⟩ (R[j3]'Hlt3.out).1 = some b3 := by rw [Hrow.out, ← HDr.out]; exact hg
                          have Hbd := Lib.hid hbd
                          have hbl : b3.c ≤ 100000000 := (dist_low HD.out Hlen.out hbd).1
                          obtain ⟨px, ox, hAx, -, s0, s1, s2, s3⟩ := row_rw (OwnR.rows (C := 4) (cells := rcells) (fun _ => rfl) Hownv.out).2 jx hjx
                          rw [hRx] at s2
                          obtain ⟨cb, hcb⟩ : ∃ c : Int, (b3.c : Int) = c := ⟨_, rfl⟩
                          simp only at s2
                          rw [hcb] at s2
                          have hjxn : (jx : Int) < (nu : Int) := by have := Hnu.out; omega
                          have hjx0 : ¬ (jx : Int) < 0 := by omega
                          have hcb1 : 0 ≤ cb ∧ cb ≤ 100000000 := by omega
                          have Hcb := Lib.hid hcb
                          have hsum : wrap64 (e5 + cb) = e5 + cb := by unfold wrap64; have := He5.out; omega
                          have Hbv0 := Hrows.out wv Hbv.out
                          obtain ⟨p'', o'', hA'', -, -, -, t2, -⟩ := row_rw (Hrows.out wv Hbv.out) j3 Hlt3.out
                          cases hA''
                          rw [Hrow.out] at t2
                          simp only at t2
                          rw [HcR.out] at t2
                          obtain ⟨y0, y1, y2, y3, y4, -⟩ := Hkev.out.cells5
                          subst hAx
                          subst hz1
                          clear hg hfx hRx hbd hbl hcb s0 s1 s3 hjx hcb1 Hbv0
                          go_wp2
                          by_cases hc : e5 + cb = cR
                          · have c1 : (e5 + cb == cR) = true := by simp [hc]
                            have hcost : (⟨e1, e2, e3, e4, e5⟩ : Ed).cost.toNat + b3.c = (R[j3]'Hlt3.out).2.c := by rw [Hrow.out]; have := HcR.out; have := Hcb.out; have := He5.out; simp only; omega
                            have h1 := hopC_add (e := ⟨e1, e2, e3, e4, e5⟩) (f := ⟨f1, f2, f3, f4, f5⟩) HH.out Hnd.out Ht.out Hs.out Ht2.out Hs2.out Hlt3.out Hbd.out hcost
                            rw [show (⟨(⟨e1, e2, e3, e4, e5⟩ : Ed).ti / 16, (⟨f1, f2, f3, f4, f5⟩ : Ed).ti⟩ : Hp) = ⟨lan, f4⟩ by rw [Hlan.out]] at h1
                            have Hadd := Lib.hid h1
                            obtain ⟨An, nn, cn, hcw, hnn, hOn⟩ := HNv.out.cellW HjN.out
                            have Hcw := Lib.hid hcw
                            have Hnn := Lib.hid hnn
                            have HOn := Lib.hid hOn
                            clear hc hcost h1 hcw hnn hOn
                            go_quiet (fail)
                            go_wp2_with fail
                            refine wp_region_F (F := fun W => Below wv.heap.size wv W) (n := 16) (m := 17) (s := #[false, false, false, false, false, false, false, false, false, false, false, false, false, false, false, false, false]) (by kernel_rfl) (by kernel_rfl) (by kernel_rfl) ?_
                            intro wd hwd
                            have hF : Below wv.heap.size wv wd := by rw [hwd.out]; exact (below_drewN (Below.refl _ _) _).drew
                            clear hwd
                            refine F_take (i := 0) (d := some 130) (by kernel_rfl) (by kernel_rfl) (by decide) (s' := #[true, false, false, false, false, false, false, false, false, false, false, false, false, false, false, false, false]) (by kernel_rfl) rfl rfl (by kernel_rfl) (by kernel_rfl) (by kernel_rfl) (fun _ _ _ h => h) (Or.inl ⟨by kernel_rfl, fun W hW => by go_simp; try with_reducible rfl⟩) hF ?_
                            go_frame
                            refine F_take (i := 1) (d := some 131) (by kernel_rfl) (by kernel_rfl) (by decide) (s' := #[true, true, false, false, false, false, false, false, false, false, false, false, false, false, false, false, false]) (by kernel_rfl) rfl rfl (by kernel_rfl) (by kernel_rfl) (by kernel_rfl) (fun _ _ _ h => h) (Or.inl ⟨by kernel_rfl, fun W hW => by go_simp; try with_reducible rfl⟩) hF ?_
                            go_frame
                            refine F_take (i := 2) (d := some 132) (by kernel_rfl) (by kernel_rfl) (by decide) (s' := #[true, true, true, false, false, false, false, false, false, false, false, false, false, false, false, false, false]) (by kernel_rfl) rfl rfl (by kernel_rfl) (by kernel_rfl) (by kernel_rfl) (fun _ _ _ h => h) (Or.inl ⟨by kernel_rfl, fun W hW => by go_simp; try with_reducible rfl⟩) hF ?_
                            go_frame
                            refine F_take (i := 3) (d := some 133) (by kernel_rfl) (by kernel_rfl) (by decide) (s' := #[true, true, true, true, false, false, false, false, false, false, false, false, false, false, false, false, false]) (by kernel_rfl) rfl rfl (by kernel_rfl) (by kernel_rfl) (by kernel_rfl) (fun _ _ _ h => h) (Or.inl ⟨by kernel_rfl, fun W hW => by go_simp; try with_reducible rfl⟩) hF ?_
                            go_frame
                            refine F_take (i := 4) (d := some 134) (by kernel_rfl) (by kernel_rfl) (by decide) (s' := #[true, true, true, true, true, false, false, false, false, false, false, false, false, false, false, false, false]) (by kernel_rfl) rfl rfl (by kernel_rfl) (by kernel_rfl) (by kernel_rfl) (fun _ _ _ h => h) (Or.inl ⟨by kernel_rfl, fun W hW => by go_simp; try with_reducible rfl⟩) hF ?_
                            go_frame
                            refine F_take (i := 5) (d := some 135) (by kernel_rfl) (by kernel_rfl) (by decide) (s' := #[true, true, true, true, true, true, false, false, false, false, false, false, false, false, false, false, false]) (by kernel_rfl) rfl rfl (by kernel_rfl) (by kernel_rfl) (by kernel_rfl) (fun _ _ _ h => h) (Or.inl ⟨by kernel_rfl, fun W hW => by obtain ⟨d0, -⟩ := Hcw.out W hW; go_simp; try with_reducible rfl⟩) hF ?_
                            go_frame
                            refine F_take (i := 6) (d := some 136) (by kernel_rfl) (by kernel_rfl) (by decide) (s' := #[true, true, true, true, true, true, true, false, false, false, false, false, false, false, false, false, false]) (by kernel_rfl) rfl rfl (by kernel_rfl) (by kernel_rfl) (by kernel_rfl) (fun _ _ _ h => h) (Or.inl ⟨by kernel_rfl, fun W hW => by go_simp; try with_reducible rfl⟩) hF ?_
                            go_frame
                            refine F_take (i := 7) (d := some 137) (by kernel_rfl) (by kernel_rfl) (by decide) (s' := #[true, true, true, true, true, true, true, true, false, false, false, false, false, false, false, false, false]) (by kernel_rfl) rfl rfl (by kernel_rfl) (by kernel_rfl) (by kernel_rfl) (fun _ _ _ h => h) (Or.inl ⟨by kernel_rfl, fun W hW => by go_simp; try with_reducible rfl⟩) hF ?_
                            go_frame
                            refine F_take (i := 8) (d := some 138) (by kernel_rfl) (by kernel_rfl) (by decide) (s' := #[true, true, true, true, true, true, true, true, true, false, false, false, false, false, false, false, false]) (by kernel_rfl) rfl rfl (by kernel_rfl) (by kernel_rfl) (by kernel_rfl) (fun _ _ _ h => h) (Or.inl ⟨by kernel_rfl, fun W hW => by obtain ⟨y0, y1, y2, y3, y4, -⟩ := (Hkev.out.below hW Hkev.out.lt).cells5; go_simp; try with_reducible rfl⟩) hF ?_
                            go_frame
                            refine F_take (i := 9) (d := some 139) (by kernel_rfl) (by kernel_rfl) (by decide) (s' := #[true, true, true, true, true, true, true, true, true, true, false, false, false, false, false, false, false]) (by kernel_rfl) rfl rfl (by kernel_rfl) (by kernel_rfl) (by kernel_rfl) (fun _ _ _ h => h) (Or.inl ⟨by kernel_rfl, fun W hW => by go_simp; try with_reducible rfl⟩) hF ?_
                            go_frame
                            refine F_take (i := 10) (d := some 140) (by kernel_rfl) (by kernel_rfl) (by decide) (s' := #[true, true, true, true, true, true, true, true, true, true, true, false, false, false, false, false, false]) (by kernel_rfl) rfl rfl (by kernel_rfl) (by kernel_rfl) (by kernel_rfl) (fun _ _ _ h => h) (Or.inl ⟨by kernel_rfl, fun W hW => by go_simp; try with_reducible rfl⟩) hF ?_
                            go_frame
                            refine F_take (i := 11) (d := some 141) (by kernel_rfl) (by kernel_rfl) (by decide) (s' := #[true, true, true, true, true, true, true, true, true, true, true, true, false, false, false, false, false]) (by kernel_rfl) rfl rfl (by kernel_rfl) (by kernel_rfl) (by kernel_rfl) (fun _ _ _ h => h) (Or.inl ⟨by kernel_rfl, fun W hW => by go_simp; try with_reducible rfl⟩) hF ?_
                            go_frame
                            refine F_take (i := 12) (d := some 142) (by kernel_rfl) (by kernel_rfl) (by decide) (s' := #[true, true, true, true, true, true, true, true, true, true, true, true, true, false, false, false, false]) (by kernel_rfl) rfl rfl (by kernel_rfl) (by kernel_rfl) (by kernel_rfl) (fun _ _ _ h => h) (Or.inl ⟨by kernel_rfl, fun W hW => by obtain ⟨z0, z1, z2, z3, z4, -⟩ := (Hkfv.out.below hW Hkfv.out.lt).cells5; go_simp; try with_reducible rfl⟩) hF ?_
                            go_frame
                            refine F_take (i := 13) (d := some 143) (by kernel_rfl) (by kernel_rfl) (by decide) (s' := #[true, true, true, true, true, true, true, true, true, true, true, true, true, true, false, false, false]) (by kernel_rfl) rfl rfl (by kernel_rfl) (by kernel_rfl) (by kernel_rfl) (fun _ _ _ h => h) (Or.inl ⟨by kernel_rfl, fun W hW => by go_simp; try with_reducible rfl⟩) hF ?_
                            go_frame
                            have hgd : gx + 1 ≤ wd.heap.size := by have := HNv.out.lt; have := hF.size; omega
                            refine F_one (i := 14) (s' := #[true, true, true, true, true, true, true, true, true, true, true, true, true, true, true, false, false]) (by kernel_rfl) (by kernel_rfl) (wpOp_enterL (i := 14) (d := some 144) (f := 53) (args := #[.slice An nn cn, .agg #[.int .i64 lan, .int .i64 f4]]) rfl rfl (by kernel_rfl) (by go_simp) ((refAdd_own _ _ An cn nn (gx + 1) _ wd (HOn.out.below hF) hgd (Nat.le_trans (Hsmall.out _ (List.getElem_mem HjN.out)) (by decide)) Hnn.out).mono ?_))
                            rintro r wa ⟨⟨A', n', c', rfl, hoa⟩, hba⟩
                            have hF := below_trans hF hF.size hba
                            refine ⟨_, rfl, fun _ => hF, ?_⟩
                            go_frame
                            clear hba hgd
                            refine F_take (i := 15) (d := some 145) (by kernel_rfl) (by kernel_rfl) (by decide) (s' := #[true, true, true, true, true, true, true, true, true, true, true, true, true, true, true, true, false]) (by kernel_rfl) rfl rfl (by kernel_rfl) (by kernel_rfl) (by kernel_rfl) (fun _ _ _ h => h) (Or.inl ⟨by kernel_rfl, fun W hW => by go_simp; try with_reducible rfl⟩) hF ?_
                            go_frame
                            obtain ⟨d0, f0⟩ := Hcw.out wa hF
                            obtain ⟨wz, hwz⟩ : ∃ v, wa.setCell ⟨gx, j3, none⟩ (.slice A' n' c') = v := ⟨_, rfl⟩
                            have hNz := (HNv.out.below hF).put (Nat.lt_succ_self _) HjN.out hoa
                            rw [hwz] at hNz
                            have hkz := (Hkev.out.below hF Hkev.out.lt).far (p := ⟨gx, j3, none⟩) Hg6x.out (.slice A' n' c')
                            rw [hwz] at hkz
                            have hkfz := (Hkfv.out.below hF Hkfv.out.lt).far (p := ⟨gx, j3, none⟩) Hgqx.out (.slice A' n' c')
                            rw [hwz] at hkfz
                            have hbz := (below_trans Hbv.out Hbv.out.size hF).setCell (p := ⟨gx, j3, none⟩) Hge.out (.slice A' n' c')
                            rw [hwz] at hbz
                            have hownz := OwnR.far (OwnR.below Hownv.out hF) (p := ⟨gx, j3, none⟩) (fun e => by have := (Hownv.out.block _ e).1; simp only at this; omega) (.slice A' n' c')
                            rw [hwz] at hownz
                            have Hownz := Lib.hid hownz
                            clear hownz
                            refine F_one (i := 16) (s' := #[true, true, true, true, true, true, true, true, true, true, true, true, true, true, true, true, true]) (by kernel_rfl) (by kernel_rfl) (wpOp_skipL (i := 16) (w' := wz) rfl rfl (by kernel_rfl) (by go_simp) ⟨fun h => absurd h (by decide), ?_⟩)
                            go_frame
                            refine F_done (by kernel_rfl) ?_ _
                            have HNz := Lib.hid hNz
                            have Hbz := Lib.hid hbz
                            have Hkz := Lib.hid hkz
                            have Hkfz := Lib.hid hkfz
                            clear hNz hbz hwz d0 f0 hF hoa hkz hkfz
                            go_wp2
                            go_roundw
                            case measure => have := Hlt3.out; simp [intOf]; omega
                            case rel => exact ⟨j3 + 1, _, by go_num, Hlt3.out, Hbz.out, Hkz.out, Hkfz.out, Hownz.out, HNz.out, by rw [HtkR.out]; exact Hadd.out⟩
                          · have c1 : (e5 + cb == cR) = false := by simp [hc]
                            have Hnot := Lib.hid (hopC_not (e := ⟨e1, e2, e3, e4, e5⟩) (f := ⟨f1, f2, f3, f4, f5⟩) HH.out Hnd.out Hlt3.out (fun b hb => by have hb' : DD ⟨f3, f4⟩ (R[j3]'Hlt3.out).1 = some b := hb; rw [Hbd.out] at hb'; cases hb'; rw [Hrow.out]; have := HcR.out; have := Hcb.out; have := He5.out; simp only; omega))
                            clear hc
                            go_quiet (fail)
                            go_wp2
                            go_roundw
                            case measure => have := Hlt3.out; simp [intOf]; omega
                            case rel => exact ⟨j3 + 1, N, by go_num, Hlt3.out, below_drewN Hbv.out _, Hkev.out.below (below_drewN (Below.refl _ _) _) Hkev.out.lt, Hkfv.out.below (below_drewN (Below.refl _ _) _) Hkfv.out.lt, OwnR.below Hownv.out (below_drewN (Below.refl _ _) _), HNv.out.below (below_drewN (Below.refl _ _) _), by rw [HtkR.out]; exact Hnot.out⟩
                      · have hke3 : j3 = R.length := by omega
                        have hkk : ¬ (j3 : Int) < (nR : Int) := by have := HnR.out; omega
                        rw [hke3, List.take_length] at hH
                        have Hend := Lib.hid (hopC_end hH)
                        have Hb := Lib.hid hb
                        have HN := Lib.hid hN
                        have Hke := Lib.hid hke
                        clear hb hN hH hke hke3 hlt3 hj3 hlN hown hkf
                        go_wp2
                        go_roundw
                        case measure => have := Hlt2.out; simp [intOf]; omega
                        case rel => exact ⟨k2 + 1, N, by go_num, Hlt2.out, Hb.out, Hke.out, HN.out, by rw [HtkF.out]; exact Hend.out⟩
                  · rw [decide_eq_false hs2] at hne2
                    have Hskip := Lib.hid (hopB_skip HH.out (f := ⟨f1, f2, f3, f4, f5⟩) (fun h => hs2 h.2))
                    clear hs2
                    go_wp2
                    go_roundw
                    case measure => have := Hlt2.out; simp [intOf]; omega
                    case rel => exact ⟨k2 + 1, N, by go_num, Hlt2.out, Hbs.out, Hkes.out, HNs.out, by rw [HtkF.out]; exact Hskip.out⟩
              · have hke2 : k2 = E.length := by omega
                have hkk : ¬ (k2 : Int) < (E.length : Int) := by omega
                rw [hke2, List.take_length] at hH
                have Hend := Lib.hid (hopB_end hH)
                have Hb := Lib.hid hb
                have HN := Lib.hid hN
                clear hb hN hH hke hke2 hk2 hlt2
                go_wp2
                go_roundw
                case measure => have := Hlt.out; simp [intOf]; omega
                case rel => exact ⟨k + 1, N, by go_num, Hlt.out, Hb.out, HN.out, by rw [Htk.out]; exact Hend.out⟩
        · rw [decide_eq_false hs] at hne
          have Hskip := Lib.hid (hopA_skip HH.out (e := ⟨e1, e2, e3, e4, e5⟩) (fun h => hs h.2))
          clear hs
          go_wp2
          go_roundw
          case measure => have := Hlt.out; simp [intOf]; omega
          case rel => exact ⟨k + 1, N, by go_num, Hlt.out, Hb7.out, HN7.out, by rw [Htk.out]; exact Hskip.out⟩
    · have hke : k = E.length := by omega
      have hkk : ¬ (k : Int) < (E.length : Int) := by omega
      rw [hke, List.take_length] at hH
      obtain ⟨wL, hwL⟩ : ∃ x : World, x = wr := ⟨_, rfl⟩
      rw [← hwL] at hb hN hkr
      have HbL := Lib.hid hb
      have HNL := Lib.hid hN
      have HHL := Lib.hid hH
      have hgL : gx + 1 ≤ wL.heap.size := hN.lt
      have HgL := Lib.hid hgL
      have hT : TreeIs E DD ⟨1, ri⟩ (nodesO (rowT R N) ordV) := by
        have h := tree_of_rows (N := N) HD.out Hm.out (by rw [HR.out]; exact hH)
        rw [HR.out] at h
        exact h
      have HT := Lib.hid hT
      have hlN : N.length = R.length := hH.len
      have HlN := Lib.hid hlN
      clear hb hN hH hke hlt hk hkr hT hgL hlN
      subst hwL
      go_wp2_with fail
      go_loopw [16, 17] (fun o kd wr => ∃ (q n c : Nat) (z : Int) (A : Option Addr) (M : List NodeM), kd = .int .i64 z ∧ z = ((q + 1 : Nat) : Int) ∧ q ≤ 2 ∧ o = .slice A n c ∧ M.length = n ∧ Below wL.heap.size wL wr ∧ NodesTo wr wL.heap.size (gx + 1) (rowT R N) (64 * q + 0) (.slice A n c) M) (fun _ kd _ => 3 - (intOf kd).toNat)
      case atStart => exact ⟨0, 0, 0, 1, none, [], rfl, rfl, by omega, rfl, rfl, Below.refl _ _, OwnR.nil _ _, by simp, by simp [nodesO]⟩
      case round =>
        obtain ⟨q, n, c, zq, A, M, rfl, hzq, hq, rfl, hMn, hb, hNT⟩ := hrel
        have Hzq := Lib.hid hzq
        have HMn := Lib.hid hMn
        have Hb := Lib.hid hb
        have HNT := Lib.hid hNT
        by_cases hq2 : q < 2
        · have hz2 : zq ≤ 2 := by omega
          have hz0 : 0 ≤ zq := by omega
          have Hq2 := Lib.hid hq2
          obtain ⟨wo, hwo⟩ : ∃ x : World, x = wr := ⟨_, rfl⟩
          rw [← hwo] at Hb HNT
          subst hwo
          clear hzq hMn hb hNT hq2 hq
          go_wp2_with fail
          go_loopw [16, 18] (fun o iv wr => ∃ (i n c : Nat) (A : Option Addr) (M : List NodeM), iv = .int .i64 i ∧ i ≤ 64 ∧ o = .slice A n c ∧ M.length = n ∧ Below wL.heap.size wL wr ∧ NodesTo wr wL.heap.size (gx + 1) (rowT R N) (64 * q + i) (.slice A n c) M) (fun _ iv _ => 64 - (intOf iv).toNat)
          case atStart => exact ⟨0, n, c, A, M, rfl, by omega, rfl, HMn.out, Hb.out, HNT.out⟩
          case round =>
            obtain ⟨i, n, c, A, M, rfl, hi, rfl, hMn, hb, hNT⟩ := hrel
            have HMn := Lib.hid hMn
            have Hb := Lib.hid hb
            have HNT := Lib.hid hNT
            by_cases hi6 : i < 64
            · have hi3 : (i : Int) ≤ 63 := by omega
              have Hi6 := Lib.hid hi6
              obtain ⟨z, hz⟩ : ∃ z, fixV R ⟨zq, (i : Int)⟩ = z := ⟨_, rfl⟩
              have HF := Lib.hid (refFind_any A6 c6 R zq i wr (Hrows.out wr (below_trans HbL.out HbL.out.size hb)) (by have := HRl.out; omega) nR HnR.out.symm hz)
              have Hz := Lib.hid hz
              clear hMn hb hNT hi6 hi hz
              go_wp2_with fail
              with_reducible refine Calls.mono HF.out ?_
              rintro r wv ⟨rfl, hbv⟩
              have Hbv := Lib.hid (below_trans Hb.out Hb.out.size hbv)
              have HNTv := Lib.hid (HNT.out.below hbv)
              clear hbv HF
              cases hg : getR R ⟨zq, (i : Int)⟩ with
              | none =>
                have hz1 : z = -1 := by rw [← Hz.out]; exact fix_none hg
                have hTn : rowT R N ⟨((q + 1 : Nat) : Int), (i : Int)⟩ = none := by unfold rowT; rw [← Hzq.out, hg]; rfl
                have Hskip := Lib.hid (HNTv.out.skip Hq2.out Hi6.out hTn)
                subst hz1
                clear hg hTn
                go_wp2
                go_roundw
                case measure => have := Hi6.out; simp [intOf]; omega
                case rel => exact ⟨i + 1, n, c, A, M, by go_num, Hi6.out, rfl, HMn.out, Hbv.out, Hskip.out⟩
              | some a =>
                obtain ⟨j, hj, hfx, hix, hRj⟩ := fix_some hg
                have hz1 : z = (j : Int) := by rw [← Hz.out]; exact hfx
                have hjN : j < N.length := by rw [HlN.out]; exact hj
                obtain ⟨An, nn, cn, hcw, hnn, hOn⟩ := HNL.out.cellW hjN
                obtain ⟨ac, ah⟩ := a
                have hTs : rowT R N ⟨((q + 1 : Nat) : Int), (i : Int)⟩ = some (⟨ac, ah⟩, N[j]) := by
                  unfold rowT
                  rw [← Hzq.out, hg, hix, Option.map_some, List.getD_eq_getElem?_getD, List.getElem?_eq_getElem hjN]
                  rfl
                have HTs := Lib.hid hTs
                have hal : ac ≤ 100000000 ∧ ah ≤ 1000000 := by
                  have h1 := hg
                  rw [← HR.out, costs_dist (HD.out ⟨1, ri⟩)] at h1
                  exact dist_low HD.out Hlen.out h1
                have Hrw : Hid (∃ b o, A6 = some ⟨b, o, none⟩ ∧ ∀ W, Below wL.heap.size wL W → W.cell? ⟨b, o + j * 4, none⟩ = some (.int .i64 zq) ∧ W.cell? ⟨b, o + j * 4 + 1, none⟩ = some (.int .i64 (i : Int)) ∧ W.cell? ⟨b, o + j * 4 + 2, none⟩ = some (.int .i64 ac) ∧ W.cell? ⟨b, o + j * 4 + 3, none⟩ = some (.int .i64 ah)) := Lib.hid (by
                  obtain ⟨b, o, hA, -⟩ := row_rw (Hrows.out wL HbL.out) j hj
                  refine ⟨b, o, hA, fun W hW => ?_⟩
                  obtain ⟨b', o', hA', -, t0, t1, t2, t3⟩ := row_rw (Hrows.out W (below_trans HbL.out HbL.out.size hW)) j hj
                  rw [hA] at hA'
                  cases hA'
                  rw [hRj] at t0 t1 t2 t3
                  exact ⟨t0, t1, t2, t3⟩)
                obtain ⟨b6, o6, hA6, hrw⟩ := Hrw.out
                have Hrw2 := Lib.hid hrw
                have Hcw := Lib.hid hcw
                have Hnn := Lib.hid hnn
                have HOn := Lib.hid hOn
                have hjn : (j : Int) < (nR : Int) := by have := HnR.out; omega
                have hj0 : 0 ≤ (j : Int) := by omega
                subst hA6
                subst hz1
                clear hg hfx hix hRj hTs hal Hrw hrw hcw hnn hOn hj
                go_wp2
                refine wp_region_F (F := fun W => Below wL.heap.size wL W) (n := 23) (m := 24) (s := #[false, false, false, false, false, false, false, false, false, false, false, false, false, false, false, false, false, false, false, false, false, false, false, false]) (by kernel_rfl) (by kernel_rfl) (by kernel_rfl) ?_
                intro wd hwd
                have hF : Below wL.heap.size wL wd := by rw [hwd.out]; exact Hbv.out.drew
                have hNd : NodesTo wd wL.heap.size (gx + 1) (rowT R N) (64 * q + i) (.slice A n c) M := by rw [hwd.out]; exact HNTv.out.below (Below.refl _ _).drew
                clear hwd
                refine F_take (i := 0) (d := some 161) (by kernel_rfl) (by kernel_rfl) (by decide) (s' := #[true, false, false, false, false, false, false, false, false, false, false, false, false, false, false, false, false, false, false, false, false, false, false, false]) (by kernel_rfl) rfl rfl (by kernel_rfl) (by kernel_rfl) (by kernel_rfl) (fun _ _ _ h => h) (Or.inl ⟨by kernel_rfl, fun W hW => by go_simp; try with_reducible rfl⟩) hF ?_
                go_frame
                refine F_take (i := 1) (d := some 162) (by kernel_rfl) (by kernel_rfl) (by decide) (s' := #[true, true, false, false, false, false, false, false, false, false, false, false, false, false, false, false, false, false, false, false, false, false, false, false]) (by kernel_rfl) rfl rfl (by kernel_rfl) (by kernel_rfl) (by kernel_rfl) (fun _ _ _ h => h) (Or.inl ⟨by kernel_rfl, fun W hW => by go_simp; try with_reducible rfl⟩) hF ?_
                go_frame
                refine F_take (i := 2) (d := some 163) (by kernel_rfl) (by kernel_rfl) (by decide) (s' := #[true, true, true, false, false, false, false, false, false, false, false, false, false, false, false, false, false, false, false, false, false, false, false, false]) (by kernel_rfl) rfl rfl (by kernel_rfl) (by kernel_rfl) (by kernel_rfl) (fun _ _ _ h => h) (Or.inl ⟨by kernel_rfl, fun W hW => by go_simp; try with_reducible rfl⟩) hF ?_
                go_frame
                refine F_take (i := 3) (d := some 164) (by kernel_rfl) (by kernel_rfl) (by decide) (s' := #[true, true, true, true, false, false, false, false, false, false, false, false, false, false, false, false, false, false, false, false, false, false, false, false]) (by kernel_rfl) rfl rfl (by kernel_rfl) (by kernel_rfl) (by kernel_rfl) (fun _ _ _ h => h) (Or.inl ⟨by kernel_rfl, fun W hW => by go_simp; try with_reducible rfl⟩) hF ?_
                go_frame
                refine F_take (i := 4) (d := some 165) (by kernel_rfl) (by kernel_rfl) (by decide) (s' := #[true, true, true, true, true, false, false, false, false, false, false, false, false, false, false, false, false, false, false, false, false, false, false, false]) (by kernel_rfl) rfl rfl (by kernel_rfl) (by kernel_rfl) (by kernel_rfl) (fun _ _ _ h => h) (Or.inl ⟨by kernel_rfl, fun W hW => by go_simp; try with_reducible rfl⟩) hF ?_
                go_frame
                refine F_take (i := 5) (d := some 166) (by kernel_rfl) (by kernel_rfl) (by decide) (s' := #[true, true, true, true, true, true, false, false, false, false, false, false, false, false, false, false, false, false, false, false, false, false, false, false]) (by kernel_rfl) rfl rfl (by kernel_rfl) (by kernel_rfl) (by kernel_rfl) (fun _ _ _ h => h) (Or.inl ⟨by kernel_rfl, fun W hW => by obtain ⟨t0, t1, t2, t3⟩ := Hrw2.out W hW; go_simp; try with_reducible rfl⟩) hF ?_
                go_frame
                refine F_take (i := 6) (d := some 167) (by kernel_rfl) (by kernel_rfl) (by decide) (s' := #[true, true, true, true, true, true, true, false, false, false, false, false, false, false, false, false, false, false, false, false, false, false, false, false]) (by kernel_rfl) rfl rfl (by kernel_rfl) (by kernel_rfl) (by kernel_rfl) (fun _ _ _ h => h) (Or.inl ⟨by kernel_rfl, fun W hW => by go_simp; try with_reducible rfl⟩) hF ?_
                go_frame
                refine F_take (i := 7) (d := some 168) (by kernel_rfl) (by kernel_rfl) (by decide) (s' := #[true, true, true, true, true, true, true, true, false, false, false, false, false, false, false, false, false, false, false, false, false, false, false, false]) (by kernel_rfl) rfl rfl (by kernel_rfl) (by kernel_rfl) (by kernel_rfl) (fun _ _ _ h => h) (Or.inl ⟨by kernel_rfl, fun W hW => by go_simp; try with_reducible rfl⟩) hF ?_
                go_frame
                refine F_take (i := 8) (d := some 169) (by kernel_rfl) (by kernel_rfl) (by decide) (s' := #[true, true, true, true, true, true, true, true, true, false, false, false, false, false, false, false, false, false, false, false, false, false, false, false]) (by kernel_rfl) rfl rfl (by kernel_rfl) (by kernel_rfl) (by kernel_rfl) (fun _ _ _ h => h) (Or.inl ⟨by kernel_rfl, fun W hW => by go_simp; try with_reducible rfl⟩) hF ?_
                go_frame
                refine F_take (i := 9) (d := some 170) (by kernel_rfl) (by kernel_rfl) (by decide) (s' := #[true, true, true, true, true, true, true, true, true, true, false, false, false, false, false, false, false, false, false, false, false, false, false, false]) (by kernel_rfl) rfl rfl (by kernel_rfl) (by kernel_rfl) (by kernel_rfl) (fun _ _ _ h => h) (Or.inl ⟨by kernel_rfl, fun W hW => by go_simp; try with_reducible rfl⟩) hF ?_
                go_frame
                refine F_take (i := 10) (d := some 171) (by kernel_rfl) (by kernel_rfl) (by decide) (s' := #[true, true, true, true, true, true, true, true, true, true, true, false, false, false, false, false, false, false, false, false, false, false, false, false]) (by kernel_rfl) rfl rfl (by kernel_rfl) (by kernel_rfl) (by kernel_rfl) (fun _ _ _ h => h) (Or.inl ⟨by kernel_rfl, fun W hW => by obtain ⟨t0, t1, t2, t3⟩ := Hrw2.out W hW; go_simp; try with_reducible rfl⟩) hF ?_
                go_frame
                refine F_take (i := 11) (d := some 172) (by kernel_rfl) (by kernel_rfl) (by decide) (s' := #[true, true, true, true, true, true, true, true, true, true, true, true, false, false, false, false, false, false, false, false, false, false, false, false]) (by kernel_rfl) rfl rfl (by kernel_rfl) (by kernel_rfl) (by kernel_rfl) (fun _ _ _ h => h) (Or.inl ⟨by kernel_rfl, fun W hW => by go_simp; try with_reducible rfl⟩) hF ?_
                go_frame
                refine F_take (i := 12) (d := some 173) (by kernel_rfl) (by kernel_rfl) (by decide) (s' := #[true, true, true, true, true, true, true, true, true, true, true, true, true, false, false, false, false, false, false, false, false, false, false, false]) (by kernel_rfl) rfl rfl (by kernel_rfl) (by kernel_rfl) (by kernel_rfl) (fun _ _ _ h => h) (Or.inl ⟨by kernel_rfl, fun W hW => by go_simp; try with_reducible rfl⟩) hF ?_
                go_frame
                refine F_take (i := 13) (d := some 174) (by kernel_rfl) (by kernel_rfl) (by decide) (s' := #[true, true, true, true, true, true, true, true, true, true, true, true, true, true, false, false, false, false, false, false, false, false, false, false]) (by kernel_rfl) rfl rfl (by kernel_rfl) (by kernel_rfl) (by kernel_rfl) (fun _ _ _ h => h) (Or.inl ⟨by kernel_rfl, fun W hW => by go_simp; try with_reducible rfl⟩) hF ?_
                go_frame
                refine F_take (i := 14) (d := some 175) (by kernel_rfl) (by kernel_rfl) (by decide) (s' := #[true, true, true, true, true, true, true, true, true, true, true, true, true, true, true, false, false, false, false, false, false, false, false, false]) (by kernel_rfl) rfl rfl (by kernel_rfl) (by kernel_rfl) (by kernel_rfl) (fun _ _ _ h => h) (Or.inl ⟨by kernel_rfl, fun W hW => by go_simp; try with_reducible rfl⟩) hF ?_
                go_frame
                refine F_take (i := 15) (d := some 176) (by kernel_rfl) (by kernel_rfl) (by decide) (s' := #[true, true, true, true, true, true, true, true, true, true, true, true, true, true, true, true, false, false, false, false, false, false, false, false]) (by kernel_rfl) rfl rfl (by kernel_rfl) (by kernel_rfl) (by kernel_rfl) (fun _ _ _ h => h) (Or.inl ⟨by kernel_rfl, fun W hW => by obtain ⟨t0, t1, t2, t3⟩ := Hrw2.out W hW; go_simp; try with_reducible rfl⟩) hF ?_
                go_frame
                refine F_take (i := 16) (d := some 177) (by kernel_rfl) (by kernel_rfl) (by decide) (s' := #[true, true, true, true, true, true, true, true, true, true, true, true, true, true, true, true, true, false, false, false, false, false, false, false]) (by kernel_rfl) rfl rfl (by kernel_rfl) (by kernel_rfl) (by kernel_rfl) (fun _ _ _ h => h) (Or.inl ⟨by kernel_rfl, fun W hW => by go_simp; try with_reducible rfl⟩) hF ?_
                go_frame
                refine F_take (i := 17) (d := some 178) (by kernel_rfl) (by kernel_rfl) (by decide) (s' := #[true, true, true, true, true, true, true, true, true, true, true, true, true, true, true, true, true, true, false, false, false, false, false, false]) (by kernel_rfl) rfl rfl (by kernel_rfl) (by kernel_rfl) (by kernel_rfl) (fun _ _ _ h => h) (Or.inl ⟨by kernel_rfl, fun W hW => by go_simp; try with_reducible rfl⟩) hF ?_
                go_frame
                refine F_take (i := 18) (d := some 179) (by kernel_rfl) (by kernel_rfl) (by decide) (s' := #[true, true, true, true, true, true, true, true, true, true, true, true, true, true, true, true, true, true, true, false, false, false, false, false]) (by kernel_rfl) rfl rfl (by kernel_rfl) (by kernel_rfl) (by kernel_rfl) (fun _ _ _ h => h) (Or.inl ⟨by kernel_rfl, fun W hW => by go_simp; try with_reducible rfl⟩) hF ?_
                go_frame
                refine F_take (i := 19) (d := some 180) (by kernel_rfl) (by kernel_rfl) (by decide) (s' := #[true, true, true, true, true, true, true, true, true, true, true, true, true, true, true, true, true, true, true, true, false, false, false, false]) (by kernel_rfl) rfl rfl (by kernel_rfl) (by kernel_rfl) (by kernel_rfl) (fun _ _ _ h => h) (Or.inl ⟨by kernel_rfl, fun W hW => by obtain ⟨d0, -⟩ := Hcw.out W hW; go_simp; try with_reducible rfl⟩) hF ?_
                go_frame
                refine F_take (i := 20) (d := some 181) (by kernel_rfl) (by kernel_rfl) (by decide) (s' := #[true, true, true, true, true, true, true, true, true, true, true, true, true, true, true, true, true, true, true, true, true, false, false, false]) (by kernel_rfl) rfl rfl (by kernel_rfl) (by kernel_rfl) (by kernel_rfl) (fun _ _ _ h => h) (Or.inl ⟨by kernel_rfl, fun W hW => by go_simp; try with_reducible rfl⟩) hF ?_
                go_frame
                obtain ⟨wq, hV⟩ : ∃ v, wd.alloc (.cells #[.int .i64 zq, .int .i64 (i : Int), .int .i64 ac, .int .i64 ah, .slice An nn cn] 63) = v := ⟨_, rfl⟩
                have hbq := below_new wd (.cells #[.int .i64 zq, .int .i64 (i : Int), .int .i64 ac, .int .i64 ah, .slice An nn cn] 63)
                have kq := Blk.new wd 63 #[.int .i64 zq, .int .i64 (i : Int), .int .i64 ac, .int .i64 ah, .slice An nn cn]
                obtain ⟨pq, hpq⟩ : ∃ p, wd.heap.size = p := ⟨_, rfl⟩
                rw [hV] at hbq kq
                rw [hpq] at kq
                have hF := below_trans hF hF.size hbq
                have hNq := hNd.below hbq
                refine F_one (i := 21) (s' := #[true, true, true, true, true, true, true, true, true, true, true, true, true, true, true, true, true, true, true, true, true, true, false, false]) (by kernel_rfl) (by kernel_rfl) (wpOp_valueL (i := 21) (d := some 182) (w' := wq) (v := .slice (some ⟨pq, 0, none⟩) 1 1) rfl rfl (by kernel_rfl) (by go_simp) ⟨fun _ => hF, ?_⟩)
                go_frame
                clear hV hpq
                obtain ⟨va, wa, hrun, hoa, hg2, hor⟩ := app_row_run (e := 63) (sl := 56) NodeM.cells (fun _ => rfl) (by decide) (bytes := 56) (by decide) infoN rfl Tryz.underlying56 onesN (w := wq) 56 wL.heap.size (.slice A n c) M hNq.row pq ⟨⟨zq, (i : Int)⟩, ⟨ac, ah⟩, An, cn, N[j]⟩ (by unfold NodeM.cells; simp only; rw [Hnn.out]; exact kq) (by have := hNq.len; omega) hF.size
                have hF := hF.grown hg2 hF.size (fun m e => (hNq.row.block m e).1)
                refine F_one (i := 22) (s' := #[true, true, true, true, true, true, true, true, true, true, true, true, true, true, true, true, true, true, true, true, true, true, true, false]) (by kernel_rfl) (by kernel_rfl) (wpOp_appendL (i := 22) (d := some 183) (t := 56) rfl rfl rfl (by kernel_rfl) rfl (by rfl) (by rfl) hrun ⟨fun _ => hF, ?_⟩)
                go_frame
                clear hrun
                obtain ⟨Aa, ca, hva⟩ := hoa.shape
                subst hva
                refine F_one (i := 23) (s' := #[true, true, true, true, true, true, true, true, true, true, true, true, true, true, true, true, true, true, true, true, true, true, true, true]) (by kernel_rfl) (by kernel_rfl) (wpOp_valueL (i := 23) (d := some 16) (w' := wa) (v := .slice Aa (M ++ [(⟨⟨zq, (i : Int)⟩, ⟨ac, ah⟩, An, cn, N[j]⟩ : NodeM)]).length ca) rfl rfl (by kernel_rfl) (by go_simp) ⟨fun h => absurd h (by decide), ?_⟩)
                go_frame
                refine F_done (by kernel_rfl) ?_ _
                have hez := hNq.row
                have heach : ∀ x ∈ M, OwnH wa (gx + 1) x.nv x.next := fun x hx => (hNq.each x hx).kept hg2 (own_two (hNq.each x hx) hNq.row (by decide))
                have hlast : OwnH wa (gx + 1) (.slice An N[j].length cn) N[j] := by rw [Hnn.out]; exact HOn.out.below hF
                have hoz : NodesTo wa wL.heap.size (gx + 1) (rowT R N) (64 * q + (i + 1)) (.slice Aa (M ++ [(⟨⟨zq, (i : Int)⟩, ⟨ac, ah⟩, An, cn, N[j]⟩ : NodeM)]).length ca) (M ++ [⟨⟨zq, (i : Int)⟩, ⟨ac, ah⟩, An, cn, N[j]⟩]) := by
                  have e := Hzq.out
                  subst e
                  exact hNq.more Hq2.out Hi6.out HTs.out hoa heach hlast
                have HOz := Lib.hid hoz
                have HBz := Lib.hid hF
                clear hoz hF hez heach hlast hoa hg2 hor hNq hNd hbq kq
                go_wp2
                go_roundw
                case measure => have := Hi6.out; simp [intOf]; omega
                case rel => exact ⟨i + 1, _, _, _, _, by go_num, Hi6.out, rfl, rfl, HBz.out, HOz.out⟩
            · have hi3 : ¬ (i : Int) ≤ 63 := by omega
              have hie : i = 64 := by omega
              have Hie := Lib.hid hie
              clear hMn hb hNT hi6 hi hie
              go_wp2
              go_roundw
              case measure => have := Hzq.out; have := Hq2.out; simp [intOf]; omega
              case rel => exact ⟨q + 1, n, c, zq + 1, A, M, by go_num, by have := Hzq.out; omega, Hq2.out, rfl, HMn.out, Hb.out, by have h := HNT.out; rw [Hie.out] at h; exact h⟩
        · have hz2 : ¬ zq ≤ 2 := by omega
          have hqe : q = 2 := by omega
          have Hqe := Lib.hid hqe
          clear hzq hMn hb hNT hq2 hq hqe
          go_wp2
          go_ret
          refine ⟨⟨_, rfl, M, ⟨OwnR.lower HNT.out.row ?_, fun x hx => OwnR.lower (HNT.out.each x hx) ?_⟩, ?_⟩, ?_⟩
          · have := HbL.out.size; have := Hb2.out.size; omega
          · have := Hgx.out; have := Hb2.out.size; omega
          · have h := HNT.out.is
            rw [Hqe.out, ordV_all] at h
            rw [h]
            exact HT.out
          · exact below_trans (below_trans Hb2.out Hb2.out.size HbL.out) (below_trans Hb2.out Hb2.out.size HbL.out).size Hb.out

end Go.Proofs.YtpfjgecdlilkcaaGreat
