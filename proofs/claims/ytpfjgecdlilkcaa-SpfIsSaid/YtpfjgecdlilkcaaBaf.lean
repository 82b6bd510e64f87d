/-
  Layer 21: the document's costs: its walk.
-/
import Derived.Test.YtpfjgecdlilkcaaBaa
import Derived.Test.YtpfjgecdlilkcaaBab
import Derived.Test.YtpfjgecdlilkcaaBac
import Derived.Test.YtpfjgecdlilkcaaBad
import Derived.Test.YtpfjgecdlilkcaaBae
namespace Go.Proofs.Ytpfjgecdlilkcaa
open Go.RowKit

set_option maxHeartbeats 8000000 in
set_option maxRecDepth 100000 in
theorem refCosts_any (A : Option Addr) (c : Nat) (E : List Ed) (k1 k2 : Int) (w : World) (hE : RowsAt 5 Ed.cells w w.heap.size A E) (hlen : E.length ≤ 4000) (hm : mayV ⟨k1, k2⟩ = true) (n : Nat) (hn : n = E.length) :
    Calls Try.prog 58 #[.agg #[.int .i64 k1, .int .i64 k2], .slice A n c] w fun r w' => (∃ v, r = .returned v ∧ OwnRw w' w.heap.size v (iterR E 200 [(⟨k1, k2⟩, ⟨0, 0⟩)])) ∧ Below w.heap.size w w' := by
  subst hn
  have HE := Lib.hid hE
  have Hm := Lib.hid hm
  have Hlen := Lib.hid hlen
  have hlen' : (E.length : Int) ≤ 4000 := by omega
  have hb0 := below_new w (.cells #[.int .i64 k1, .int .i64 k2] 40)
  have hk0 := Blk.new w 40 #[.int .i64 k1, .int .i64 k2]
  obtain ⟨w0, hW0⟩ : ∃ w0, w.alloc (.cells #[.int .i64 k1, .int .i64 k2] 40) = w0 := ⟨_, rfl⟩
  rw [hW0] at hk0 hb0
  have Hb0 := Lib.hid hb0
  have hb1 := below_new w0 (.cells #[.int .i64 k1, .int .i64 k2, .int .i64 0, .int .i64 0] 120)
  have ho1 := OwnR.lit (e := 120) (C := 4) (cells := rcells) (fun _ => rfl) (L := [(⟨k1, k2⟩, ⟨0, 0⟩)]) (n := 1) (B := w.heap.size) (Blk.new w0 120 #[.int .i64 k1, .int .i64 k2, .int .i64 0, .int .i64 0]) hb0.size rfl (by decide) (by unfold maxLen; omega)
  have HB1 := Lib.hid (below_trans hb0 hb0.size hb1)
  have HO1 := Lib.hid ho1
  obtain ⟨a0, a1, -, -⟩ := hk0.cells2
  clear hE hm hlen hb0 hk0 hb1 ho1
  go_enter Try.func58, Try.ntmps58
  go_wp2
  go_loopw [5, 6] (fun v i wr => ∃ k : Nat, i = .int .i64 k ∧ k ≤ 200 ∧ OwnRw wr w.heap.size v (iterR E k [(⟨k1, k2⟩, ⟨0, 0⟩)]) ∧ Below w.heap.size w wr) (fun _ i _ => 200 - (intOf i).toNat)
  case atStart => exact ⟨0, rfl, Nat.zero_le _, HO1.out, HB1.out⟩
  case round =>
    obtain ⟨k, rfl, hk, hown, hb⟩ := hrel
    obtain ⟨A5, c5, hv5⟩ := hown.shape
    subst hv5
    obtain ⟨wo, hwo⟩ : ∃ wo, wr = wo := ⟨_, rfl⟩
    subst hwo
    have Hown := Lib.hid hown
    have Hb := Lib.hid hb
    have Hk := Lib.hid hk
    obtain ⟨nL, hnL⟩ : ∃ nL, (iterR E k [(⟨k1, k2⟩, ⟨0, 0⟩)]).length = nL := ⟨_, rfl⟩
    rw [hnL]
    have HnL := Lib.hid hnL
    by_cases hlt : k < 200
    · have hkl : (k : Int) < 200 := by omega
      clear hown hb hk hnL
      go_wp2
      go_loopw [5, 7, 8] (fun v ch i wr => ∃ (j : Nat) (b : Bool), i = .int .i64 j ∧ ch = .bool b ∧ j ≤ E.length ∧ OwnRw wr w.heap.size v (rowsV E ⟨k1, k2⟩ k j) ∧ (b = false → rowsV E ⟨k1, k2⟩ k j = iterR E k [(⟨k1, k2⟩, ⟨0, 0⟩)]) ∧ Below w.heap.size w wr) (fun _ _ i _ => E.length - (intOf i).toNat)
      case atStart => exact ⟨0, false, rfl, rfl, Nat.zero_le _, by rw [rowsV_zero, HnL.out.symm]; exact Hown.out, fun _ => rfl, Hb.out⟩
      case round =>
        obtain ⟨j, b, rfl, rfl, hj, hown, hch, hb⟩ := hrel
        obtain ⟨A6, c6, hv6⟩ := hown.shape
        subst hv6
        have hsm := rowsV_small (r := ⟨k1, k2⟩) Hk.out hj Hlen.out
        have hok := rowsV_ok (E := E) Hm.out k j
        have hnx := fun h => rowsV_next E ⟨k1, k2⟩ k (i := j) h
        obtain ⟨L, hL⟩ : ∃ L, rowsV E ⟨k1, k2⟩ k j = L := ⟨_, rfl⟩
        rw [hL] at hown hch hsm hok hnx ⊢
        obtain ⟨nM, hnM⟩ : ∃ nM, L.length = nM := ⟨_, rfl⟩
        rw [hnM] at hown ⊢
        have Hsm := Lib.hid hsm
        have Hok := Lib.hid hok
        have HnM := Lib.hid hnM
        have Ho := Lib.hid hown
        have Hch := Lib.hid hch
        have HL := Lib.hid hL
        by_cases hlj : j < E.length
        · have Hnx := Lib.hid (hnx hlj)
          have hjl : (j : Int) < (E.length : Int) := by omega
          obtain ⟨g, o, hA', -, x0, x1, x2, x3, x4⟩ := row_ed ((HE.out.below hb).more hb.size) j hlj
          have HA' := Lib.hid hA'
          rw [hA']
          have Hlj := Lib.hid hlj
          generalize hx : E[j] = x at *
          obtain ⟨e1, e2, e3, e4, e5⟩ := x
          simp only at x0 x1 x2 x3 x4
          have hb9 := below_new wr (.cells #[.int .i64 e1, .int .i64 e2, .int .i64 e3, .int .i64 e4, .int .i64 e5] 42)
          have hk9 := Blk.new wr 42 #[.int .i64 e1, .int .i64 e2, .int .i64 e3, .int .i64 e4, .int .i64 e5]
          obtain ⟨w9, hw9⟩ : ∃ w9, wr.alloc (.cells #[.int .i64 e1, .int .i64 e2, .int .i64 e3, .int .i64 e4, .int .i64 e5] 42) = w9 := ⟨_, rfl⟩
          obtain ⟨g9, hg9⟩ : ∃ g9, wr.heap.size = g9 := ⟨_, rfl⟩
          rw [hw9, hg9] at hk9
          rw [hw9] at hb9
          have HK9 := Lib.hid hk9
          have HB9 := Lib.hid (below_trans hb hb.size hb9)
          have HO9 := Lib.hid (hown.below hb9)
          have HF := Lib.hid (fun W (hO : OwnRw W w.heap.size (.slice A6 nM c6) L) p q => refFind_any A6 c6 L p q W (OwnR.rows (C := 4) (cells := rcells) (fun _ => rfl) hO).2 (by have := Hok.out; omega) nM HnM.out.symm rfl)
          obtain ⟨t, ht⟩ : ∃ t, cntE ⟨e1, e2, e3, e4, e5⟩ = t := ⟨_, rfl⟩
          have HC := Lib.hid (fun W => refCnt_any e1 e2 e3 e4 e5 W ht)
          have Ht := Lib.hid ht
          obtain ⟨z0, z1, z2, z3, z4, -⟩ := hk9.cells5
          clear hown hch hsm hok hnx hnM hb hj hlj hx hb9 hk9 hA' hL ht
          go_wp2_with fail
          clear x0 x1 x2 x3 x4 z0 z1 z2 z3 z4
          with_reducible refine Calls.mono (HF.out _ HO9.out _ _) ?_
          rintro r wa ⟨rfl, hba⟩
          have HBa := Lib.hid (below_trans HB9.out HB9.out.size hba)
          have HKa := Lib.hid (HK9.out.below hba HK9.out.lt)
          have HOa := Lib.hid (HO9.out.below hba)
          obtain ⟨z0, z1, z2, z3, z4, -⟩ := HKa.out.cells5
          clear hba
          go_wp2_with fail
          clear z0 z1 z2 z3 z4
          with_reducible refine Calls.mono (HC.out _) ?_
          rintro r wb ⟨rfl, hbb⟩
          have HBb := Lib.hid (below_trans HBa.out HBa.out.size hbb)
          have KB := Lib.hid (HKa.out.below hbb HKa.out.lt)
          have HOb := Lib.hid (HOa.out.below hbb)
          obtain ⟨z0, z1, z2, z3, z4, -⟩ := KB.out.cells5
          clear hbb
          cases t with
          | false =>
            have Hsame := Lib.hid (Hnx.out.trans (relax_off Ht.out))
            go_wp2
            go_roundw
            case measure => have := Hlj.out; simp [intOf]; omega
            case rel => exact ⟨j + 1, b, by go_num, rfl, Hlj.out, by rw [Hsame.out]; have h := HOb.out; rw [← HnM.out] at h ⊢; exact h, fun hbf => by rw [Hsame.out]; exact Hch.out hbf, HBb.out⟩
          | true =>
            cases hsr : getR L (⟨e1, e2, e3, e4, e5⟩ : Ed).src with
            | none =>
              have Hsame := Lib.hid (Hnx.out.trans (relax_out hsr))
              have hfx := fix_none hsr
              simp only [Ed.src] at hfx
              clear hsr
              go_wp2
              go_roundw
              case measure => have := Hlj.out; simp [intOf]; omega
              case rel => exact ⟨j + 1, b, by go_num, rfl, Hlj.out, by rw [Hsame.out]; have h := HOb.out; rw [← HnM.out] at h ⊢; exact h, fun hbf => by rw [Hsame.out]; exact Hch.out hbf, HBb.out⟩
            | some a =>
              obtain ⟨p, hp, hfx, -, hLp⟩ := fix_some hsr
              have Hsr := Lib.hid hsr
              have Hp := Lib.hid hp
              have HLp := Lib.hid (show ∃ h : p < L.length, L[p] = ((⟨e1, e2, e3, e4, e5⟩ : Ed).src, a) from ⟨hp, hLp⟩)
              simp only [Ed.src] at hfx
              have hpm : (p : Int) < (nM : Int) := by have := HnM.out; omega
              obtain ⟨g6, hg6⟩ := HOb.out.first (by omega)
              subst hg6
              have has := Hsm.out _ (show (_, a) ∈ L by rw [← hLp]; exact List.getElem_mem hp)
              have hac := cost_le Ht.out
              simp only at has hac
              have PRow := Lib.hid (show ∀ W, Below wb.heap.size wb W → W.cell? ⟨g6, p * 4, none⟩ = some (.int .i64 e1) ∧ W.cell? ⟨g6, p * 4 + 1, none⟩ = some (.int .i64 e2) ∧ W.cell? ⟨g6, p * 4 + 2, none⟩ = some (.int .i64 a.c) ∧ W.cell? ⟨g6, p * 4 + 3, none⟩ = some (.int .i64 a.h) from fun W hW => by
                obtain ⟨g', o', e, -, r0, r1, r2, r3⟩ := row_rw (OwnR.rows (C := 4) (cells := rcells) (fun _ => rfl) (HOb.out.below hW)).2 p hp
                injection e with e
                injection e with e e'
                subst e e'
                rw [hLp] at r0 r1 r2 r3
                simp only [Nat.zero_add] at r0 r1 r2 r3
                exact ⟨r0, r1, r2, r3⟩)
              obtain ⟨sc, hsc⟩ : ∃ s : Nat, (stepV a ⟨e1, e2, e3, e4, e5⟩).c = s := ⟨_, rfl⟩
              have hsc2 : (a.c : Int) + e5 = (sc : Int) := by rw [← hsc]; unfold stepV; simp only; omega
              have Hsc := Lib.hid hsc
              have hac1 := hac.2.1
              have hac2 : (a.c : Int) ≤ 100000000 := by omega
              have hac3 : (a.h : Int) ≤ 1000000 := by omega
              have hac4 : 0 ≤ (a.c : Int) := by omega
              have hac5 : 0 ≤ (a.h : Int) := by omega
              have hac6 := hac1.1
              have hac7 := hac1.2
              have hsc3 : (sc : Int) ≤ 100000100 := by omega
              have hsc4 : 0 ≤ (sc : Int) := by omega
              have hwr : IntKind.i64.wrap (sc : Int) = (sc : Int) := IntWalk.i64_in _ (by omega)
              clear hsr hp hLp has hac hsc hac1
              go_wp2_with fail
              clear z0 z1 z2 z3 z4
              refine wp_region_F (F := fun W => Below wb.heap.size wb W) (n := 17) (m := 18) (s := #[false, false, false, false, false, false, false, false, false, false, false, false, false, false, false, false, false, false]) (by kernel_rfl) (by kernel_rfl) (by kernel_rfl) ?_
              intro wd hwd
              have hF : Below wb.heap.size wb wd := by rw [hwd.out]; exact (Below.refl _ _).drew
              clear hwd
              refine F_take (i := 0) (d := some 41) (by kernel_rfl) (by kernel_rfl) (by decide) (s' := #[true, false, false, false, false, false, false, false, false, false, false, false, false, false, false, false, false, false]) (by kernel_rfl) rfl rfl (by kernel_rfl) (by kernel_rfl) (by kernel_rfl) (fun _ _ _ h => h) (Or.inl ⟨by kernel_rfl, fun W hW => by go_simp; try with_reducible rfl⟩) hF ?_
              go_frame
              refine F_take (i := 1) (d := some 42) (by kernel_rfl) (by kernel_rfl) (by decide) (s' := #[true, true, false, false, false, false, false, false, false, false, false, false, false, false, false, false, false, false]) (by kernel_rfl) rfl rfl (by kernel_rfl) (by kernel_rfl) (by kernel_rfl) (fun _ _ _ h => h) (Or.inl ⟨by kernel_rfl, fun W hW => by obtain ⟨a0, a1, a2, a3, a4, -⟩ := (KB.out.below hW KB.out.lt).cells5; go_simp; try with_reducible rfl⟩) hF ?_
              go_frame
              refine F_take (i := 2) (d := some 43) (by kernel_rfl) (by kernel_rfl) (by decide) (s' := #[true, true, true, false, false, false, false, false, false, false, false, false, false, false, false, false, false, false]) (by kernel_rfl) rfl rfl (by kernel_rfl) (by kernel_rfl) (by kernel_rfl) (fun _ _ _ h => h) (Or.inl ⟨by kernel_rfl, fun W hW => by go_simp; try with_reducible rfl⟩) hF ?_
              go_frame
              refine F_take (i := 3) (d := some 44) (by kernel_rfl) (by kernel_rfl) (by decide) (s' := #[true, true, true, true, false, false, false, false, false, false, false, false, false, false, false, false, false, false]) (by kernel_rfl) rfl rfl (by kernel_rfl) (by kernel_rfl) (by kernel_rfl) (fun _ _ _ h => h) (Or.inl ⟨by kernel_rfl, fun W hW => by go_simp; try with_reducible rfl⟩) hF ?_
              go_frame
              refine F_take (i := 4) (d := some 45) (by kernel_rfl) (by kernel_rfl) (by decide) (s' := #[true, true, true, true, true, false, false, false, false, false, false, false, false, false, false, false, false, false]) (by kernel_rfl) rfl rfl (by kernel_rfl) (by kernel_rfl) (by kernel_rfl) (fun _ _ _ h => h) (Or.inl ⟨by kernel_rfl, fun W hW => by go_simp; try with_reducible rfl⟩) hF ?_
              go_frame
              refine F_take (i := 5) (d := some 46) (by kernel_rfl) (by kernel_rfl) (by decide) (s' := #[true, true, true, true, true, true, false, false, false, false, false, false, false, false, false, false, false, false]) (by kernel_rfl) rfl rfl (by kernel_rfl) (by kernel_rfl) (by kernel_rfl) (fun _ _ _ h => h) (Or.inl ⟨by kernel_rfl, fun W hW => by go_simp; try with_reducible rfl⟩) hF ?_
              go_frame
              refine F_take (i := 6) (d := some 47) (by kernel_rfl) (by kernel_rfl) (by decide) (s' := #[true, true, true, true, true, true, true, false, false, false, false, false, false, false, false, false, false, false]) (by kernel_rfl) rfl rfl (by kernel_rfl) (by kernel_rfl) (by kernel_rfl) (fun _ _ _ h => h) (Or.inl ⟨by kernel_rfl, fun W hW => by obtain ⟨b0, b1, b2, b3⟩ := PRow.out W hW; go_simp; try with_reducible rfl⟩) hF ?_
              go_frame
              refine F_take (i := 7) (d := some 48) (by kernel_rfl) (by kernel_rfl) (by decide) (s' := #[true, true, true, true, true, true, true, true, false, false, false, false, false, false, false, false, false, false]) (by kernel_rfl) rfl rfl (by kernel_rfl) (by kernel_rfl) (by kernel_rfl) (fun _ _ _ h => h) (Or.inl ⟨by kernel_rfl, fun W hW => by go_simp; try with_reducible rfl⟩) hF ?_
              go_frame
              refine F_take (i := 8) (d := some 49) (by kernel_rfl) (by kernel_rfl) (by decide) (s' := #[true, true, true, true, true, true, true, true, true, false, false, false, false, false, false, false, false, false]) (by kernel_rfl) rfl rfl (by kernel_rfl) (by kernel_rfl) (by kernel_rfl) (fun _ _ _ h => h) (Or.inl ⟨by kernel_rfl, fun W hW => by obtain ⟨a0, a1, a2, a3, a4, -⟩ := (KB.out.below hW KB.out.lt).cells5; go_simp; try with_reducible rfl⟩) hF ?_
              go_frame
              refine F_take (i := 9) (d := some 50) (by kernel_rfl) (by kernel_rfl) (by decide) (s' := #[true, true, true, true, true, true, true, true, true, true, false, false, false, false, false, false, false, false]) (by kernel_rfl) rfl rfl (by kernel_rfl) (by kernel_rfl) (by kernel_rfl) (fun _ _ _ h => h) (Or.inl ⟨by kernel_rfl, fun W hW => by go_simp; try with_reducible rfl⟩) hF ?_
              go_frame
              refine F_take (i := 10) (d := some 51) (by kernel_rfl) (by kernel_rfl) (by decide) (s' := #[true, true, true, true, true, true, true, true, true, true, true, false, false, false, false, false, false, false]) (by kernel_rfl) rfl rfl (by kernel_rfl) (by kernel_rfl) (by kernel_rfl) (fun _ _ _ h => h) (Or.inl ⟨by kernel_rfl, fun W hW => by go_simp; try with_reducible rfl⟩) hF ?_
              go_frame
              refine F_take (i := 11) (d := some 52) (by kernel_rfl) (by kernel_rfl) (by decide) (s' := #[true, true, true, true, true, true, true, true, true, true, true, true, false, false, false, false, false, false]) (by kernel_rfl) rfl rfl (by kernel_rfl) (by kernel_rfl) (by kernel_rfl) (fun _ _ _ h => h) (Or.inl ⟨by kernel_rfl, fun W hW => by go_simp; try with_reducible rfl⟩) hF ?_
              go_frame
              refine F_take (i := 12) (d := some 53) (by kernel_rfl) (by kernel_rfl) (by decide) (s' := #[true, true, true, true, true, true, true, true, true, true, true, true, true, false, false, false, false, false]) (by kernel_rfl) rfl rfl (by kernel_rfl) (by kernel_rfl) (by kernel_rfl) (fun _ _ _ h => h) (Or.inl ⟨by kernel_rfl, fun W hW => by go_simp; try with_reducible rfl⟩) hF ?_
              go_frame
              refine F_take (i := 13) (d := some 54) (by kernel_rfl) (by kernel_rfl) (by decide) (s' := #[true, true, true, true, true, true, true, true, true, true, true, true, true, true, false, false, false, false]) (by kernel_rfl) rfl rfl (by kernel_rfl) (by kernel_rfl) (by kernel_rfl) (fun _ _ _ h => h) (Or.inl ⟨by kernel_rfl, fun W hW => by go_simp; try with_reducible rfl⟩) hF ?_
              go_frame
              refine F_take (i := 14) (d := some 55) (by kernel_rfl) (by kernel_rfl) (by decide) (s' := #[true, true, true, true, true, true, true, true, true, true, true, true, true, true, true, false, false, false]) (by kernel_rfl) rfl rfl (by kernel_rfl) (by kernel_rfl) (by kernel_rfl) (fun _ _ _ h => h) (Or.inl ⟨by kernel_rfl, fun W hW => by obtain ⟨b0, b1, b2, b3⟩ := PRow.out W hW; go_simp; try with_reducible rfl⟩) hF ?_
              go_frame
              refine F_take (i := 15) (d := some 56) (by kernel_rfl) (by kernel_rfl) (by decide) (s' := #[true, true, true, true, true, true, true, true, true, true, true, true, true, true, true, true, false, false]) (by kernel_rfl) rfl rfl (by kernel_rfl) (by kernel_rfl) (by kernel_rfl) (fun _ _ _ h => h) (Or.inl ⟨by kernel_rfl, fun W hW => by go_simp; try with_reducible rfl⟩) hF ?_
              go_frame
              refine F_one (i := 16) (s' := #[true, true, true, true, true, true, true, true, true, true, true, true, true, true, true, true, true, false]) (by kernel_rfl) (by kernel_rfl) ?_
              obtain ⟨we, hwe⟩ : ∃ v, wd.alloc (.cells #[.int .i64 0, .int .i64 0, .int .i64 0, .int .i64 0] 120) = v := ⟨_, rfl⟩
              have hbx := below_new wd (.cells #[.int .i64 0, .int .i64 0, .int .i64 0, .int .i64 0] 120)
              have kx := Blk.new wd 120 #[.int .i64 0, .int .i64 0, .int .i64 0, .int .i64 0]
              obtain ⟨px, hpx⟩ : ∃ p, wd.heap.size = p := ⟨_, rfl⟩
              rw [hwe] at hbx kx
              rw [hpx] at kx
              have hBp : wb.heap.size ≤ px := by have := hF.size; omega
              have hF := below_trans hF hF.size hbx
              refine wpOp_valueL (i := 16) (d := some 11) (w' := we) (v := .pointer (some ⟨px, 0, none⟩)) rfl rfl (by kernel_rfl) (by go_simp) ⟨fun _ => hF, ?_⟩
              go_frame
              clear hbx hwe hpx
              refine F_one (i := 17) (s' := #[true, true, true, true, true, true, true, true, true, true, true, true, true, true, true, true, true, true]) (by kernel_rfl) (by kernel_rfl) ?_
              obtain ⟨wz, hwz⟩ : ∃ v, (((we.setCell ⟨px, 0, none⟩ (.int .i64 e3)).setCell ⟨px, 1, none⟩ (.int .i64 e4)).setCell ⟨px, 2, none⟩ (.int .i64 sc)).setCell ⟨px, 3, none⟩ (.int .i64 a.h) = v := ⟨_, rfl⟩
              obtain ⟨s0, s1, s2, s3, sf0, sf1, sf2, sf3⟩ := kx.cells4
              have kx := kx.set4s (.int .i64 e3) (.int .i64 e4) (.int .i64 sc) (.int .i64 a.h)
              have hF := below_set4z hF hBp (.int .i64 e3) (.int .i64 e4) (.int .i64 sc) (.int .i64 a.h)
              rw [hwz] at kx hF
              refine wpOp_skipL (i := 17) (w' := wz) rfl rfl (by kernel_rfl) (by go_simp) ⟨fun h => absurd h (by decide), ?_⟩
              go_frame
              clear hwz s0 s1 s2 s3 sf0 sf1 sf2 sf3
              refine F_done (by kernel_rfl) ?_ _
              have hne6 : g6 ≠ px := by have := (HOb.out.block g6 rfl).2; omega
              have HNe := Lib.hid hne6
              have HNe9 := Lib.hid (show g9 ≠ px by have := KB.out.lt; omega)
              have KX := Lib.hid kx
              have HBz := Lib.hid (below_trans HBb.out HBb.out.size hF)
              have KEz := Lib.hid (KB.out.below hF KB.out.lt)
              have HOz := Lib.hid (HOb.out.below hF)
              have HBp := Lib.hid (show w.heap.size ≤ px by have := HBb.out.size; omega)
              obtain ⟨sh, hsh⟩ : ∃ s : Nat, (stepV a ⟨e1, e2, e3, e4, e5⟩).h = s := ⟨_, rfl⟩
              have Hsh := Lib.hid hsh
              have Hstep := Lib.hid (show stepV a ⟨e1, e2, e3, e4, e5⟩ = ⟨sc, sh⟩ by rw [← Hsc.out, ← hsh])
              clear kx hF hne6 hBp PRow
              obtain ⟨q0, q1, q2, q3, qf0, qf1, qf2, qf3⟩ := KX.out.cells4
              obtain ⟨z0, z1, z2, z3, z4, -⟩ := KEz.out.cells5
              have hway : ∃ w12, Blk w12 px 120 #[.int .i64 e3, .int .i64 e4, .int .i64 sc, .int .i64 sh] ∧ Below w.heap.size w w12 ∧ Blk w12 g9 42 #[.int .i64 e1, .int .i64 e2, .int .i64 e3, .int .i64 e4, .int .i64 e5] ∧ OwnRw w12 w.heap.size (.slice (some ⟨g6, 0, none⟩) nM c6) L ∧ ((e3 = 2 ∧ wz.setCell ⟨px, 3, none⟩ (.int .i64 ((a.h : Int) + 1)) = w12) ∨ (¬ e3 = 2 ∧ wz = w12)) := by
                by_cases h2 : e3 = 2
                · have hs1 : (a.h : Int) + 1 = (sh : Int) := by
                    rw [← hsh]
                    simp [stepV, hopN, h2]
                  refine ⟨_, ?_, HBz.out.setCell (p := ⟨px, 3, none⟩) HBp.out _, KEz.out.far (p := ⟨px, 3, none⟩) HNe9.out _, HOz.out.far (p := ⟨px, 3, none⟩) (fun e => HNe.out (by injection e)) _, .inl ⟨h2, rfl⟩⟩
                  rw [hs1]
                  exact (KX.out.set_ 3 _).to (by simp)
                · have hs1 : (a.h : Int) = (sh : Int) := by
                    rw [← hsh]
                    simp [stepV, hopN, h2]
                  refine ⟨wz, by rw [← hs1]; exact KX.out, HBz.out, KEz.out, HOz.out, .inr ⟨h2, rfl⟩⟩
              obtain ⟨w12, k12, b12, ke12, o12, hway⟩ := hway
              have K12 := Lib.hid k12
              have B12 := Lib.hid b12
              have KE12 := Lib.hid ke12
              have O12 := Lib.hid o12
              clear k12 b12 ke12 o12 hsh
              have Hgen := Lib.hid (fun (W : World) (q : Nat) (d : Val2) (O : OwnRw W w.heap.size (.slice (some ⟨g6, 0, none⟩) nM c6) L) (hq : q < L.length) (hix : ixV (⟨e1, e2, e3, e4, e5⟩ : Ed).dst L = q) (hod : getR L (⟨e1, e2, e3, e4, e5⟩ : Ed).dst = some d) (hl : sc < d.c ∨ (sc = d.c ∧ sh < d.h)) => (show OwnRw ((((W.setCell ⟨g6, q * 4, none⟩ (.int .i64 e3)).setCell ⟨g6, q * 4 + 1, none⟩ (.int .i64 e4)).setCell ⟨g6, q * 4 + 2, none⟩ (.int .i64 sc)).setCell ⟨g6, q * 4 + 3, none⟩ (.int .i64 sh)) w.heap.size (.slice (some ⟨g6, 0, none⟩) nM c6) (rowsV E ⟨k1, k2⟩ k (j + 1)) from by
                rw [Hnx.out.trans (relax_old Ht.out Hsr.out hod), Hstep.out, if_pos (show lessV ⟨sc, sh⟩ d = true by simpa [lessV] using hl), hix]
                exact OwnRw.set4 O HnM.out.symm q hq (⟨e3, e4⟩, ⟨sc, sh⟩)))
              obtain ⟨od, hod⟩ : ∃ od, getR L (⟨e1, e2, e3, e4, e5⟩ : Ed).dst = od := ⟨_, rfl⟩
              have Hod := Lib.hid hod
              clear hod
              rcases hway with ⟨rfl, hw12⟩ | ⟨h2, rfl⟩
              all_goals
                obtain ⟨y0, y1, y2, y3, y4, -⟩ := KE12.out.cells5
                go_wp2_with fail
                clear q0 q1 q2 q3 qf0 qf1 qf2 qf3 z0 z1 z2 z3 z4 y0 y1 y2 y3 y4
                with_reducible refine Calls.mono (HF.out _ O12.out _ _) ?_
                rintro r wc ⟨rfl, hbc⟩
                have K13 := Lib.hid (K12.out.below hbc K12.out.lt)
                have B13 := Lib.hid (below_trans B12.out B12.out.size hbc)
                have O13 := Lib.hid (O12.out.below hbc)
                clear hbc
                obtain ⟨q0, q1, q2, q3, qf0, qf1, qf2, qf3⟩ := K13.out.cells4
                cases od with
                | none =>
                  have Hsame := Lib.hid (Hnx.out.trans (relax_new Ht.out Hsr.out Hod.out))
                  have hfx := fix_none Hod.out
                  simp only [Ed.dst] at hfx
                  go_wp2_with (at_builtin; (refine app_row (e := 120) rcells (fun _ => rfl) (by decide) (bytes := 32) (by decide) infoRw rfl Try.underlying115 onesRw (by rfl) _ _ (by rfl) w.heap.size _ L (by rfl) (O13.out.alloc _) wc.heap.size (⟨_, _⟩, ⟨sc, sh⟩) (by rfl) (Blk.new _ _ _) (by have := Hok.out; omega) (by have := B13.out.size; simp; omega) ?_); intro v15 w15 hown15 hg15 hor15; have HO15 := Lib.hid hown15; have HB15 := Lib.hid ((B13.out.alloc B13.out.size _).grown hg15 (by have := B13.out.size; simp; omega) (fun m hm => (O13.out.block m hm).1)); clear hown15 hg15 hor15)
                  go_roundw
                  case measure => have := Hlj.out; simp [intOf]; omega
                  case rel => exact ⟨j + 1, true, by go_num, rfl, Hlj.out, by rw [Hsame.out, Hstep.out]; exact HO15.out, fun h => absurd h (by decide), HB15.out⟩
                | some d =>
                  obtain ⟨q, hq, hfx, hix, hLq⟩ := fix_some Hod.out
                  simp only [Ed.dst] at hfx
                  have Hq := Lib.hid hq
                  have Hold := Lib.hid (Hnx.out.trans (relax_old Ht.out Hsr.out Hod.out))
                  have Hix := Lib.hid hix
                  have hqm : (q : Int) < (nM : Int) := by have := HnM.out; omega
                  have hd := Hsm.out _ (show (_, d) ∈ L by rw [← hLq]; exact List.getElem_mem hq)
                  simp only at hd
                  obtain ⟨g', o', e, -, r0, r1, r2, r3⟩ := row_rw (OwnR.rows (C := 4) (cells := rcells) (fun _ => rfl) O13.out).2 q hq
                  injection e with e
                  injection e with e e'
                  subst e e'
                  rw [hLq] at r0 r1 r2 r3
                  simp only [Nat.zero_add] at r0 r1 r2 r3
                  clear hLq hq hix
                  have Oq := Lib.hid (fun n => O13.out.below (below_drewN (Below.refl _ _) n))
                  have Bq := Lib.hid (fun n => below_drewN B13.out n)
                  have Hg6 := Lib.hid (O13.out.block g6 rfl).1
                  have Hkeep := Lib.hid (show ¬ lessV (stepV a _) d = true → rowsV E ⟨k1, k2⟩ k (j + 1) = L from fun h => by rw [Hold.out, if_neg h])
                  have Hle := Lib.hid (show lessV (stepV a _) d = true ↔ sc < d.c ∨ (sc = d.c ∧ sh < d.h) by rw [Hstep.out]; simp [lessV])
                  have Hf := Lib.hid (fun i => O13.out.froz i)
                  clear Hold
                  by_cases h5 : sc < d.c
                  · have Hl := Lib.hid (show sc < d.c ∨ (sc = d.c ∧ sh < d.h) from .inl h5)
                    have h5b : decide (sc < d.c) = true := by simp [h5]
                    have f0 := Hf.out (q * 4)
                    have f1 := Hf.out (q * 4 + 1)
                    have f2 := Hf.out (q * 4 + 2)
                    have f3 := Hf.out (q * 4 + 3)
                    clear h5
                    go_wp2
                    go_quiet (fail)
                    go_wp2
                    go_roundw
                    case measure => have := Hlj.out; simp [intOf]; omega
                    case rel => exact ⟨j + 1, true, by go_num, rfl, Hlj.out, by exact Hgen.out _ q d (Oq.out _) Hq.out Hix.out Hod.out Hl.out, fun h => absurd h (by decide), below_set4 (Bq.out _) Hg6.out _ _ _ _⟩
                  · have h5b : decide (sc < d.c) = false := by simp; omega
                    by_cases h6 : sc = d.c
                    · have h6b : ((sc : Int) == (d.c : Int)) = true := by simp; omega
                      have h6c : (sc == d.c) = true := by simp; omega
                      by_cases h7 : sh < d.h
                      · have Hl := Lib.hid (show sc < d.c ∨ (sc = d.c ∧ sh < d.h) from .inr ⟨h6, h7⟩)
                        have h7b : decide (sh < d.h) = true := by simp [h7]
                        have f0 := Hf.out (q * 4)
                        have f1 := Hf.out (q * 4 + 1)
                        have f2 := Hf.out (q * 4 + 2)
                        have f3 := Hf.out (q * 4 + 3)
                        clear h5 h6 h7
                        go_wp2
                        go_quiet (fail)
                        go_wp2
                        go_roundw
                        case measure => have := Hlj.out; simp [intOf]; omega
                        case rel => exact ⟨j + 1, true, by go_num, rfl, Hlj.out, by exact Hgen.out _ q d (Oq.out _) Hq.out Hix.out Hod.out Hl.out, fun h => absurd h (by decide), below_set4 (Bq.out _) Hg6.out _ _ _ _⟩
                      · have Hsame := Lib.hid (Hkeep.out (fun h => by rcases Hle.out.1 h with g | ⟨-, g⟩ <;> omega))
                        have h7b : decide (sh < d.h) = false := by simp; omega
                        clear h5 h6 h7
                        go_wp2
                        go_quiet (fail)
                        go_wp2
                        go_roundw
                        case measure => have := Hlj.out; simp [intOf]; omega
                        case rel => exact ⟨j + 1, b, by go_num, rfl, Hlj.out, by rw [Hsame.out]; have h := Oq.out; rw [← HnM.out] at h ⊢; exact h _, fun hbf => by rw [Hsame.out]; exact Hch.out hbf, Bq.out _⟩
                    · have Hsame := Lib.hid (Hkeep.out (fun h => by rcases Hle.out.1 h with g | ⟨g, -⟩ <;> omega))
                      have h6b : ((sc : Int) == (d.c : Int)) = false := by simp; omega
                      have h6c : (sc == d.c) = false := by simp; omega
                      clear h5 h6
                      go_wp2
                      go_quiet (fail)
                      go_wp2
                      go_roundw
                      case measure => have := Hlj.out; simp [intOf]; omega
                      case rel => exact ⟨j + 1, b, by go_num, rfl, Hlj.out, by rw [Hsame.out]; have h := Oq.out; rw [← HnM.out] at h ⊢; exact h _, fun hbf => by rw [Hsame.out]; exact Hch.out hbf, Bq.out _⟩
        · have hje : j = E.length := by omega
          subst hje
          have hjk : ¬ (E.length : Int) < (E.length : Int) := by omega
          have Hbq := Lib.hid hb
          have Hk1 := Lib.hid (show k + 1 ≤ 200 by omega)
          clear hown hch hsm hok hnx hnM hb hj hlj
          cases b with
          | false =>
            have hst := rowsV_stop Hk.out (HL.out.trans (Hch.out rfl))
            rw [HL.out] at hst
            have Hst := Lib.hid hst
            clear hst
            go_wp2
            go_ret
            exact ⟨⟨_, rfl, by rw [Hst.out]; exact Ho.out⟩, Hbq.out⟩
          | true =>
            go_wp2
            go_roundw
            case measure => simp [intOf]; omega
            case rel => exact ⟨k + 1, by go_num, Hk1.out, by rw [← rowsV_last, HL.out]; exact Ho.out, Hbq.out⟩
    · have hke : k = 200 := by omega
      subst hke
      clear hown hb hk hnL hlt
      go_wp2
      go_ret
      exact ⟨⟨_, rfl, by have h := Hown.out; rw [HnL.out] at h; exact h⟩, Hb.out⟩

end Go.Proofs.Ytpfjgecdlilkcaa

/-
  Layer 21 in plain words: the example's tree.
-/
namespace Go.Proofs.Ytpfjgecdlilkcaa

def exE : List Ed := [⟨1, 1, 2, 17, 3⟩, ⟨2, 17, 1, 2, 0⟩]
def exL : List Nk := [⟨⟨1, 1⟩, ⟨0, 0⟩, []⟩, ⟨⟨1, 2⟩, ⟨3, 1⟩, [⟨1, 2⟩]⟩, ⟨⟨2, 17⟩, ⟨3, 1⟩, [⟨1, 0⟩]⟩]
theorem iter_two {E : List Ed} {L M : List RowV} (h : roundR E L = M) (h2 : roundR E M = M) : iterR E 200 L = M := by
  show iterR E 199 (roundR E L) = M
  rw [h]
  exact iterR_fix h2 199
theorem iter_three {E : List Ed} {L K M : List RowV} (h : roundR E L = K) (h' : roundR E K = M) (h2 : roundR E M = M) : iterR E 200 L = M := by
  show iterR E 198 (roundR E (roundR E L)) = M
  rw [h, h']
  exact iterR_fix h2 198
theorem ex_rows : iterR exE 200 [(⟨1, 1⟩, ⟨0, 0⟩)] = [(⟨1, 1⟩, ⟨0, 0⟩), (⟨2, 17⟩, ⟨3, 1⟩), (⟨1, 2⟩, ⟨3, 1⟩)] := iter_two (by decide) (by decide)
theorem ex_rows2 : iterR exE 200 [(⟨1, 2⟩, ⟨0, 0⟩)] = [(⟨1, 2⟩, ⟨0, 0⟩)] := iter_two (by decide) (by decide)
theorem ex_tree {DD : Vx → Vx → Option Val2} (hD : Dists exE DD) : TreeIs exE DD ⟨1, 1⟩ exL := by
  have h1 : ∀ v, DD ⟨1, 1⟩ v = getR [(⟨1, 1⟩, ⟨0, 0⟩), (⟨2, 17⟩, ⟨3, 1⟩), (⟨1, 2⟩, ⟨3, 1⟩)] v := fun v => by rw [← ex_rows]; exact (costs_dist (hD _) v).symm
  have h2 : ∀ v, DD ⟨1, 2⟩ v = getR [(⟨1, 2⟩, ⟨0, 0⟩)] v := fun v => by rw [← ex_rows2]; exact (costs_dist (hD _) v).symm
  have hop : ∀ v h, isHop exE DD ⟨1, 1⟩ v h ↔ (v = ⟨2, 17⟩ ∧ h = ⟨1, 0⟩) ∨ (v = ⟨1, 2⟩ ∧ h = ⟨1, 2⟩) := by
    intro v h
    constructor
    · rintro ⟨e, he, hc, hs, a, ha, hh⟩
      have he1 : e = ⟨1, 1, 2, 17, 3⟩ := by
        simp only [exE, List.mem_cons, List.not_mem_nil, or_false] at he
        rcases he with rfl | rfl
        · rfl
        · exact absurd hs (by decide)
      subst he1
      rcases hh with ⟨g1, g2, g3⟩ | ⟨f, hf, hfc, hfs, b, hb, g2, g3⟩
      · left
        exact ⟨g1.symm, by rw [g3]; rfl⟩
      · right
        have hf1 : f = ⟨2, 17, 1, 2, 0⟩ := by
          simp only [exE, List.mem_cons, List.not_mem_nil, or_false] at hf
          rcases hf with rfl | rfl
          · exact absurd hfs (by decide)
          · rfl
        subst hf1
        have hb2 : DD ⟨1, 2⟩ v = some b := hb
        rw [h2, getR_cons] at hb2
        by_cases hv : (⟨1, 2⟩ : Vx) = v
        · exact ⟨hv.symm, by rw [g3]; rfl⟩
        · rw [if_neg hv] at hb2
          cases hb2
    · rintro (⟨rfl, rfl⟩ | ⟨rfl, rfl⟩)
      · exact ⟨⟨1, 1, 2, 17, 3⟩, by simp [exE], by decide, rfl, ⟨3, 1⟩, by rw [h1]; decide, .inl ⟨rfl, rfl, rfl⟩⟩
      · exact ⟨⟨1, 1, 2, 17, 3⟩, by simp [exE], by decide, rfl, ⟨3, 1⟩, by rw [h1]; decide, .inr ⟨⟨2, 17, 1, 2, 0⟩, by simp [exE], by decide, rfl, ⟨0, 0⟩, by show DD ⟨1, 2⟩ ⟨1, 2⟩ = _; rw [h2]; decide, rfl, rfl⟩⟩
  refine ⟨?_, ?_, ?_, ?_⟩
  · simp [exL, ltX]
  · intro v a ha
    rw [h1, getR_cons] at ha
    by_cases g1 : (⟨1, 1⟩ : Vx) = v
    · exact ⟨_, List.mem_cons_self, g1⟩
    · rw [if_neg g1, getR_cons] at ha
      by_cases g2 : (⟨2, 17⟩ : Vx) = v
      · exact ⟨⟨⟨2, 17⟩, ⟨3, 1⟩, [⟨1, 0⟩]⟩, by simp [exL], g2⟩
      · rw [if_neg g2, getR_cons] at ha
        by_cases g3 : (⟨1, 2⟩ : Vx) = v
        · exact ⟨⟨⟨1, 2⟩, ⟨3, 1⟩, [⟨1, 2⟩]⟩, by simp [exL], g3⟩
        · rw [if_neg g3] at ha
          cases ha
  · intro n hn
    rw [h1]
    simp only [exL, List.mem_cons, List.not_mem_nil, or_false] at hn
    rcases hn with rfl | rfl | rfl <;> decide
  · intro n hn
    simp only [exL, List.mem_cons, List.not_mem_nil, or_false] at hn
    rcases hn with rfl | rfl | rfl
    · refine ⟨List.Pairwise.nil, fun h => ?_⟩
      rw [hop]
      simp
    · refine ⟨List.pairwise_singleton _ _, fun h => ?_⟩
      rw [hop]
      simp
    · refine ⟨List.pairwise_singleton _ _, fun h => ?_⟩
      rw [hop]
      simp
theorem ex_is {DD : Vx → Vx → Option Val2} (hD : Dists exE DD) {L : List Nk} (h : TreeIs exE DD ⟨1, 1⟩ L) : L = exL := tree_unique hD hD h (ex_tree hD) fun _ _ => Iff.rfl

end Go.Proofs.Ytpfjgecdlilkcaa

/-
  A vertex, and a row of edges, that were handed in.
-/
namespace Go.Proofs.Ytpfjgecdlilkcaa
open Go.ChangeShapes Go.WideShapes Go.RowKit Go.Deep Go.Joins

section
variable {H : Type} {enc : TypeId × Value → H} {w : World} {base : Nat} {spare : Nat → Bool} {held : Bool}
theorem cofVert : Try.prog.cellsOf 40 = 2 := by kernel_rfl
theorem cofEdge : Try.prog.cellsOf 42 = 5 := by kernel_rfl
set_option maxRecDepth 100000 in
theorem dec_vert {n : Nat} {cs : List Value} {x : DataW H × List MemPlace} (h : DataW.trod enc Try.prog w base spare held n 40 cs = some x) : ∃ a b : Int, cs = [.int .i64 a, .int .i64 b] := by
  obtain ⟨hl, m, hf⟩ := dec_fields Try.underlying40 h
  rw [cofVert] at hl
  match cs, hl with
  | [c0, c1], _ =>
    obtain ⟨_, t0⟩ := fld hf 0 3 0 1 [c0] (by kernel_rfl) cofInt rfl
    obtain ⟨_, t1⟩ := fld hf 1 3 1 1 [c1] (by kernel_rfl) cofInt rfl
    obtain ⟨z0, rfl⟩ := tint t0
    obtain ⟨z1, rfl⟩ := tint t1
    exact ⟨z0, z1, rfl⟩
set_option maxRecDepth 100000 in
theorem dec_edge {n : Nat} {cs : List Value} {x : DataW H × List MemPlace} (h : DataW.trod enc Try.prog w base spare held n 42 cs = some x) : ∃ d : Ed, cs = d.cells ∧ True := by
  obtain ⟨hl, m, hf⟩ := dec_fields Try.underlying42 h
  rw [cofEdge] at hl
  match cs, hl with
  | [c0, c1, c2, c3, c4], _ =>
    obtain ⟨_, t0⟩ := fld hf 0 40 0 2 [c0, c1] (by kernel_rfl) cofVert rfl
    obtain ⟨_, t1⟩ := fld hf 1 40 2 2 [c2, c3] (by kernel_rfl) cofVert rfl
    obtain ⟨_, t2⟩ := fld hf 2 3 4 1 [c4] (by kernel_rfl) cofInt rfl
    obtain ⟨a, b, e0⟩ := dec_vert t0
    obtain ⟨c, d, e1⟩ := dec_vert t1
    obtain ⟨z2, rfl⟩ := tint t2
    simp only [List.cons.injEq, and_true] at e0 e1
    obtain ⟨rfl, rfl⟩ := e0
    obtain ⟨rfl, rfl⟩ := e1
    exact ⟨⟨a, b, c, d, z2⟩, rfl, trivial⟩
set_option maxRecDepth 100000 in
theorem open_vert {r : Reach} {b0 : Nat} {v : Value} {d : DataW H} {p : List MemPlace} (hv : Value.okWide Try.prog w r b0 40 v) (h : DataW.Trod enc Try.prog w base spare held 40 v d p) :
    ∃ a b : Int, v = .agg #[.int .i64 a, .int .i64 b] := by
  obtain ⟨cs, rfl, _⟩ := okWide_struct Try.underlying40 hv
  obtain ⟨n, hn⟩ := h
  obtain ⟨a, b, he⟩ := dec_vert hn
  refine ⟨a, b, ?_⟩
  congr 1
  exact Array.toList_inj.1 he
set_option maxRecDepth 100000 in
theorem open_edge {r : Reach} {b0 : Nat} {v : Value} {d : DataW H} {p : List MemPlace} (hv : Value.okWide Try.prog w r b0 42 v) (h : DataW.Trod enc Try.prog w base spare held 42 v d p) :
    ∃ a b c d e : Int, v = .agg #[.int .i64 a, .int .i64 b, .int .i64 c, .int .i64 d, .int .i64 e] := by
  obtain ⟨cs, rfl, _⟩ := okWide_struct Try.underlying42 hv
  obtain ⟨n, hn⟩ := h
  obtain ⟨x, he, -⟩ := dec_edge hn
  refine ⟨x.fk, x.fi, x.tk, x.ti, x.cost, ?_⟩
  congr 1
  exact Array.toList_inj.1 he
theorem open_edges {a : Option Addr} {len cap : Nat} {d : DataW H} {p : List MemPlace} (h : DataW.Trod enc Try.prog w base spare held 32 (.slice a len cap) d p) :
    ∃ l : List Ed, len = l.length ∧ RowsAt 5 Ed.cells w w.heap.size a l ∧ l.length ≤ maxLen := by
  obtain ⟨n, hn⟩ := h
  obtain ⟨A, c, R, he, hr, hm, -⟩ := open_rows (C := 5) Ed.cells (fun _ => True) (by decide) Try.underlying32 cofEdge (fun _ _ _ h => dec_edge h) hn
  simp [Value.cells] at he
  obtain ⟨rfl, rfl, rfl⟩ := he
  exact ⟨R, rfl, hr, hm⟩
end

end Go.Proofs.Ytpfjgecdlilkcaa

/-
  Which descriptions are right: the program's answer.
-/
namespace Go.Proofs.Ytpfjgecdlilkcaa
open Go.RowKit

def inB (n a b : Int) : Bool := decide (a ≤ n) && decide (n ≤ b)
def headB (h : Hd) : Bool := inB h.age 0 60 && inB h.kind 1 2 && inB h.adv 1 15 && inB h.seq (-2147483647) 2147483647
def linkB (x : Lnk) : Bool := inB x.kind 2 3 && inB x.id 0 63 && inB x.data 0 63 && inB x.cost 1 100
def linksB (l : List Lnk) : Bool := l.all linkB && decide (l.length ≤ 4)
def memC : Int → List Int → Bool
  | _, [] => true
  | last, x :: l => inB x (last + 1) 15 && memC x l
def membersB (l : List Int) : Bool := memC 0 l && decide (0 < l.length)
def rightB (x : Lsa) : Bool := headB x.head && if x.head.kind = 1 then decide (x.head.id = x.head.adv) && decide (x.members.length = 0) && linksB x.links else inB x.head.id 0 63 && decide (x.links.length = 0) && membersB x.members
theorem in_cases (n a b : Int) : (decide (a ≤ n) = false ∧ inB n a b = false) ∨ (decide (a ≤ n) = true ∧ decide (n ≤ b) = inB n a b) := by
  unfold inB
  cases h : decide (a ≤ n) <;> simp
theorem inB_iff {n a b : Int} : inB n a b = true ↔ a ≤ n ∧ n ≤ b := by simp [inB]

theorem bool4 (a b c d : Bool) : a = false ∨ (a = true ∧ b = false) ∨ (a = true ∧ b = true ∧ c = false) ∨ (a = true ∧ b = true ∧ c = true ∧ d = false) ∨ (a = true ∧ b = true ∧ c = true ∧ d = true) := by
  cases a <;> cases b <;> cases c <;> cases d <;> simp
theorem bool4n (a b c d : Bool) : ((a && b && c && d) = false ∧ (a = false ∨ (a = true ∧ b = false) ∨ (a = true ∧ b = true ∧ c = false) ∨ (a = true ∧ b = true ∧ c = true ∧ d = false))) ∨ ((a && b && c && d) = true ∧ a = true ∧ b = true ∧ c = true ∧ d = true) := by
  cases a <;> cases b <;> cases c <;> cases d <;> simp
set_option maxHeartbeats 1000000 in
theorem in_v (n a b : Int) (w : World) {t : Bool} (ht : inB n a b = t) : Calls Try.prog 68 #[.int .i64 n, .int .i64 a, .int .i64 b] w fun r w' => r = .returned (.bool t) ∧ w = w' := by
  rcases in_cases n a b with ⟨h1, h2⟩ | ⟨h1, h2⟩
  · rw [h2] at ht
    subst ht
    clear h2
    go_enter Try.func68, Try.ntmps68
    go_wp2
    go_ret
    exact ⟨rfl, rfl⟩
  · rw [ht] at h2
    clear ht
    go_enter Try.func68, Try.ntmps68
    go_wp2
    go_ret
    exact ⟨rfl, rfl⟩

set_option maxHeartbeats 2000000 in
set_option maxRecDepth 100000 in
theorem lsaHead_any (a1 a2 a3 a4 a5 a6 a7 : Int) (w : World) {t : Bool} (ht : headB ⟨a1, a2, a3, a4, a5, a6, a7⟩ = t) : Calls Try.prog 66 #[.agg #[.int .i64 a1, .int .i64 a2, .int .i64 a3, .int .i64 a4, .int .i64 a5, .int .i64 a6, .int .i64 a7]] w fun r w' => r = .returned (.bool t) ∧ Below w.heap.size w w' := by
  unfold headB at ht
  simp only at ht
  obtain ⟨t1, h1⟩ : ∃ t1, inB a1 0 60 = t1 := ⟨_, rfl⟩
  obtain ⟨t2, h2⟩ : ∃ t2, inB a2 1 2 = t2 := ⟨_, rfl⟩
  obtain ⟨t3, h3⟩ : ∃ t3, inB a4 1 15 = t3 := ⟨_, rfl⟩
  obtain ⟨t4, h4⟩ : ∃ t4, inB a5 (-2147483647) 2147483647 = t4 := ⟨_, rfl⟩
  rw [h1, h2, h3, h4] at ht
  have H1 := Lib.hid h1
  have H2 := Lib.hid h2
  have H3 := Lib.hid h3
  have H4 := Lib.hid h4
  clear h1 h2 h3 h4
  have Hb := Lib.hid ((Below.refl w.heap.size w).alloc (Nat.le_refl _) (.cells #[.int .i64 a1, .int .i64 a2, .int .i64 a3, .int .i64 a4, .int .i64 a5, .int .i64 a6, .int .i64 a7] 26))
  rcases bool4 t1 t2 t3 t4 with rfl | ⟨rfl, rfl⟩ | ⟨rfl, rfl, rfl⟩ | ⟨rfl, rfl, rfl, rfl⟩ | ⟨rfl, rfl, rfl, rfl⟩
  all_goals
    simp only [Bool.false_and, Bool.and_false, Bool.and_true] at ht
    subst ht
    go_enter Try.func66, Try.ntmps66
    go_wp2_with (first
      | (go_at_call 68; (with_reducible refine Calls.mono (in_v a1 0 60 _ H1.out) ?_); rintro r w2 ⟨rfl, rfl⟩)
      | (go_at_call 68; (with_reducible refine Calls.mono (in_v a2 1 2 _ H2.out) ?_); rintro r w2 ⟨rfl, rfl⟩)
      | (go_at_call 68; (with_reducible refine Calls.mono (in_v a4 1 15 _ H3.out) ?_); rintro r w2 ⟨rfl, rfl⟩)
      | (go_at_call 68; (with_reducible refine Calls.mono (in_v a5 (-2147483647) 2147483647 _ H4.out) ?_); rintro r w2 ⟨rfl, rfl⟩))
    go_ret
    exact ⟨rfl, Hb.out⟩

theorem row_lnk {w : World} {B : Nat} {A : Option Addr} {l : List Lnk} (h : RowsAt 4 Lnk.cells w B A l) (k : Nat) (hk : k < l.length) :
    ∃ b o, A = some ⟨b, o, none⟩ ∧ b < B ∧ w.cell? ⟨b, o + k * 4, none⟩ = some (.int .i64 l[k].kind) ∧ w.cell? ⟨b, o + k * 4 + 1, none⟩ = some (.int .i64 l[k].id) ∧ w.cell? ⟨b, o + k * 4 + 2, none⟩ = some (.int .i64 l[k].data) ∧ w.cell? ⟨b, o + k * 4 + 3, none⟩ = some (.int .i64 l[k].cost) := by
  obtain ⟨b, o, e, hb, hc⟩ := h (by omega)
  exact ⟨b, o, e, hb, by simpa using hc k hk 0 _ (by omega) rfl, hc k hk 1 _ (by omega) rfl, hc k hk 2 _ (by omega) rfl, hc k hk 3 _ (by omega) rfl⟩
theorem row_int {w : World} {B : Nat} {A : Option Addr} {l : List Int} (h : RowsAt 1 icell w B A l) (k : Nat) (hk : k < l.length) :
    ∃ b o, A = some ⟨b, o, none⟩ ∧ b < B ∧ w.cell? ⟨b, o + k, none⟩ = some (.int .i64 l[k]) := by
  obtain ⟨b, o, e, hb, hc⟩ := h (by omega)
  exact ⟨b, o, e, hb, by simpa using hc k hk 0 _ (by omega) rfl⟩

set_option maxHeartbeats 4000000 in
set_option maxRecDepth 100000 in
theorem lsaLinks_any (A : Option Addr) (c : Nat) (l : List Lnk) (w : World) (B : Nat) (h : RowsAt 4 Lnk.cells w B A l) (hB : B ≤ w.heap.size) (hm : l.length ≤ maxLen) {t : Bool} (ht : linksB l = t) (n : Nat) (hn : n = l.length) :
    Calls Try.prog 67 #[.slice A n c] w fun r w' => r = .returned (.bool t) ∧ Below w.heap.size w w' := by
  subst hn
  unfold maxLen at hm
  have H := Lib.hid (h.more hB)
  have Ht := Lib.hid ht
  clear h hB ht
  go_enter Try.func67, Try.ntmps67
  go_wp2
  go_loopw [7] (fun i wr => ∃ k : Nat, i = .int .i64 k ∧ k ≤ l.length ∧ (l.take k).all linkB = true ∧ Below w.heap.size w wr) (fun i _ => l.length - (intOf i).toNat)
  case atStart => exact ⟨0, rfl, Nat.zero_le _, by simp, Below.refl _ _⟩
  case round =>
    obtain ⟨k, rfl, hk, hall, hb⟩ := hrel
    have Hb := Lib.hid hb
    by_cases hlt : k < l.length
    · obtain ⟨g, o, rfl, -, z0, z1, z2, z3⟩ := row_lnk (H.out.below hb) k hlt
      have hkl : (k : Int) < (l.length : Int) := by omega
      have hno : linkB l[k] = false → linksB l = false := fun h => by
        unfold linksB
        have : l.all linkB = false := by
          rw [List.all_eq_false]
          exact ⟨l[k], List.getElem_mem hlt, by simp [h]⟩
        rw [this]; rfl
      have hyes : linkB l[k] = true → (l.take (k + 1)).all linkB = true := fun h => by
        rw [List.take_succ_eq_append_getElem hlt, List.all_append, hall]
        simp [h]
      have Hno := Lib.hid hno
      have Hyes := Lib.hid hyes
      have Hal := Lib.hid (fun o => hb.alloc hb.size o)
      clear hb hno hyes hall
      generalize l[k] = x at *
      obtain ⟨x1, x2, x3, x4⟩ := x
      simp only at z0 z1 z2 z3
      unfold linkB at Hno Hyes
      simp only at Hno Hyes
      obtain ⟨t1, h1⟩ : ∃ t1, inB x1 2 3 = t1 := ⟨_, rfl⟩
      obtain ⟨t2, h2⟩ : ∃ t2, inB x2 0 63 = t2 := ⟨_, rfl⟩
      obtain ⟨t3, h3⟩ : ∃ t3, inB x3 0 63 = t3 := ⟨_, rfl⟩
      obtain ⟨t4, h4⟩ : ∃ t4, inB x4 1 100 = t4 := ⟨_, rfl⟩
      rw [h1, h2, h3, h4] at Hno Hyes
      have H1 := Lib.hid h1
      have H2 := Lib.hid h2
      have H3 := Lib.hid h3
      have H4 := Lib.hid h4
      clear h1 h2 h3 h4
      rcases bool4n t1 t2 t3 t4 with ⟨hv, hd⟩ | ⟨hv, rfl, rfl, rfl, rfl⟩
      · have ht2 : t = false := by rw [← Ht.out]; exact Hno.out hv
        subst ht2
        clear Hyes Hno hv
        rcases hd with rfl | ⟨rfl, rfl⟩ | ⟨rfl, rfl, rfl⟩ | ⟨rfl, rfl, rfl, rfl⟩
        all_goals
          go_wp2_with (first
            | (go_at_call 68; (with_reducible refine Calls.mono (in_v x1 2 3 _ H1.out) ?_); rintro r w2 ⟨rfl, rfl⟩)
            | (go_at_call 68; (with_reducible refine Calls.mono (in_v x4 1 100 _ H4.out) ?_); rintro r w2 ⟨rfl, rfl⟩)
            | (go_at_call 68; (with_reducible refine Calls.mono (in_v x2 0 63 _ H2.out) ?_); rintro r w2 ⟨rfl, rfl⟩)
            | (go_at_call 68; (with_reducible refine Calls.mono (in_v x3 0 63 _ H3.out) ?_); rintro r w2 ⟨rfl, rfl⟩))
          go_ret
          exact ⟨rfl, Hal.out _⟩
      · have Hy := Lib.hid (Hyes.out hv)
        clear Hno Hyes hv
        go_wp2_with (first
          | (go_at_call 68; (with_reducible refine Calls.mono (in_v x1 2 3 _ H1.out) ?_); rintro r w2 ⟨rfl, rfl⟩)
          | (go_at_call 68; (with_reducible refine Calls.mono (in_v x4 1 100 _ H4.out) ?_); rintro r w2 ⟨rfl, rfl⟩)
          | (go_at_call 68; (with_reducible refine Calls.mono (in_v x2 0 63 _ H2.out) ?_); rintro r w2 ⟨rfl, rfl⟩)
          | (go_at_call 68; (with_reducible refine Calls.mono (in_v x3 0 63 _ H3.out) ?_); rintro r w2 ⟨rfl, rfl⟩))
        go_roundw
        case measure => simp [intOf]; omega
        case rel => exact ⟨k + 1, by go_num, hlt, Hy.out, Hal.out _⟩
    · have hkk : k = l.length := by omega
      subst hkk
      rw [List.take_length] at hall
      have ht2 : decide ((l.length : Int) ≤ 4) = t := by
        rw [← Ht.out]
        unfold linksB
        rw [hall, Bool.true_and]
        simp only [decide_eq_decide]
        omega
      clear hb hall
      go_wp2
      go_ret
      exact ⟨rfl, Hb.out⟩

theorem memC_take {last : Int} {l : List Int} {k : Nat} (hk : k < l.length) (h : memC last (l.take k) = true) :
    memC last (l.take (k + 1)) = inB l[k] (((last :: l.take k).getLast (by simp)) + 1) 15 ∧ (inB l[k] (((last :: l.take k).getLast (by simp)) + 1) 15 = false → memC last l = false) := by
  induction l generalizing last k with
  | nil => simp at hk
  | cons x l ih =>
    cases k with
    | zero =>
      simp only [List.take_zero, List.take_succ_cons, memC, List.getElem_cons_zero, Bool.and_true, List.getLast_singleton, true_and]
      intro h2
      rw [h2]; rfl
    | succ k =>
      simp only [List.take_succ_cons, memC, Bool.and_eq_true] at h
      obtain ⟨h1, h2⟩ := ih (last := x) (k := k) (by simpa using hk) h.2
      simp only [List.take_succ_cons, memC, List.getElem_cons_succ, h.1, Bool.true_and]
      rw [List.getLast_cons (by simp)]
      exact ⟨h1, h2⟩

set_option maxHeartbeats 4000000 in
set_option maxRecDepth 100000 in
theorem lsaMembers_any (A : Option Addr) (c : Nat) (l : List Int) (w : World) (B : Nat) (h : RowsAt 1 icell w B A l) (hB : B ≤ w.heap.size) (hm : l.length ≤ maxLen) {t : Bool} (ht : membersB l = t) (n : Nat) (hn : n = l.length) :
    Calls Try.prog 69 #[.slice A n c] w fun r w' => r = .returned (.bool t) ∧ Below w.heap.size w w' := by
  subst hn
  unfold maxLen at hm
  have H := Lib.hid (h.more hB)
  have Ht := Lib.hid ht
  clear h hB ht
  go_enter Try.func69, Try.ntmps69
  go_wp2
  go_loopw [3, 8] (fun la i wr => ∃ (k : Nat) (z : Int), i = .int .i64 k ∧ la = .int .i64 z ∧ k ≤ l.length ∧ memC 0 (l.take k) = true ∧ (((0 : Int) :: l.take k).getLast (by simp)) = z ∧ 0 ≤ z ∧ z ≤ 15 ∧ wr = w) (fun _ i _ => l.length - (intOf i).toNat)
  case atStart => exact ⟨0, 0, rfl, rfl, Nat.zero_le _, rfl, rfl, by omega, by omega, rfl⟩
  case round =>
    obtain ⟨k, z, rfl, rfl, hk, hmem, hz, hz0, hz15, rfl⟩ := hrel
    by_cases hlt : k < l.length
    · obtain ⟨g, o, rfl, -, z0⟩ := row_int H.out k hlt
      have hkl : (k : Int) < (l.length : Int) := by omega
      obtain ⟨m1, m2⟩ := memC_take hlt hmem
      rw [hz] at m1 m2
      have hlast : (((0 : Int) :: l.take (k + 1)).getLast (by simp)) = l[k] := by
        have : (0 : Int) :: l.take (k + 1) = ((0 : Int) :: l.take k) ++ [l[k]] := by rw [List.take_succ_eq_append_getElem hlt]; rfl
        simp only [this, List.getLast_append, List.getLast_singleton]
        simp
      generalize l[k] = x at *
      obtain ⟨t1, h1⟩ : ∃ t1, inB x (z + 1) 15 = t1 := ⟨_, rfl⟩
      rw [h1] at m1 m2
      have H1 := Lib.hid h1
      have Hlast := Lib.hid hlast
      have M1 := Lib.hid m1
      cases t1
      · have ht2 : t = false := by rw [← Ht.out]; unfold membersB; rw [m2 rfl]; rfl
        subst ht2
        clear h1 m1 m2 hlast hmem hz
        go_wp2_with (go_at_call 68; (with_reducible refine Calls.mono (in_v x (z + 1) 15 _ H1.out) ?_); rintro r w2 ⟨rfl, rfl⟩)
        go_ret
        exact ⟨rfl, Below.refl _ _⟩
      · have hx := inB_iff.1 h1
        clear h1 m1 m2 hlast hmem hz
        go_wp2_with (go_at_call 68; (with_reducible refine Calls.mono (in_v x (z + 1) 15 _ H1.out) ?_); rintro r w2 ⟨rfl, rfl⟩)
        go_roundw
        case measure => simp [intOf]; omega
        case rel => exact ⟨k + 1, x, by go_num, rfl, hlt, M1.out, Hlast.out, by omega, by omega, trivial⟩
    · have hkk : k = l.length := by omega
      subst hkk
      have ht2 : decide (0 < l.length) = t := by
        rw [← Ht.out]
        unfold membersB
        rw [List.take_length] at hmem
        rw [hmem, Bool.true_and]
      clear hmem hz
      go_wp2
      go_ret
      exact ⟨rfl, Below.refl _ _⟩

def Lsa.val (x : Lsa) : Value := .agg x.cells.toArray
theorem right_cases (x : Lsa) : (headB x.head = false ∧ rightB x = false) ∨
    (headB x.head = true ∧ (x.head.kind == 1) = true ∧ decide (x.head.id = x.head.adv) = false ∧ rightB x = false) ∨
    (headB x.head = true ∧ (x.head.kind == 1) = true ∧ decide (x.head.id = x.head.adv) = true ∧ x.members.length ≠ 0 ∧ rightB x = false) ∨
    (headB x.head = true ∧ (x.head.kind == 1) = true ∧ decide (x.head.id = x.head.adv) = true ∧ x.members.length = 0 ∧ rightB x = linksB x.links) ∨
    (headB x.head = true ∧ (x.head.kind == 1) = false ∧ inB x.head.id 0 63 = false ∧ rightB x = false) ∨
    (headB x.head = true ∧ (x.head.kind == 1) = false ∧ inB x.head.id 0 63 = true ∧ x.links.length ≠ 0 ∧ rightB x = false) ∨
    (headB x.head = true ∧ (x.head.kind == 1) = false ∧ inB x.head.id 0 63 = true ∧ x.links.length = 0 ∧ rightB x = membersB x.members) := by
  unfold rightB
  by_cases hk : x.head.kind = 1
  · rw [if_pos hk]
    cases headB x.head <;> by_cases h1 : x.head.id = x.head.adv <;> by_cases h2 : x.members.length = 0 <;> simp [hk, h1, h2]
  · rw [if_neg hk]
    cases headB x.head <;> cases inB x.head.id 0 63 <;> by_cases h2 : x.links.length = 0 <;> simp [hk, h2]
theorem blk9 {w : World} {g : Nat} {t : TypeId} {a b c d e f x y z : Value} (h : Blk w g t #[a, b, c, d, e, f, x, y, z]) : w.cell? ⟨g, 0, none⟩ = some a ∧ w.cell? ⟨g, 1, none⟩ = some b ∧ w.cell? ⟨g, 2, none⟩ = some c ∧ w.cell? ⟨g, 3, none⟩ = some d ∧ w.cell? ⟨g, 4, none⟩ = some e ∧ w.cell? ⟨g, 5, none⟩ = some f ∧ w.cell? ⟨g, 6, none⟩ = some x ∧ w.cell? ⟨g, 7, none⟩ = some y ∧ w.cell? ⟨g, 8, none⟩ = some z ∧ ∀ i, w.frozen? ⟨g, i, none⟩ = false :=
  ⟨h.cell 0, h.cell 1, h.cell 2, h.cell 3, h.cell 4, h.cell 5, h.cell 6, h.cell 7, h.cell 8, fun i => h.frozen i⟩
set_option maxHeartbeats 4000000 in
set_option maxRecDepth 100000 in
theorem lsaRight_any (a1 a2 a3 a4 a5 a6 a7 : Int) (ka : Option Addr) (kc : Nat) (ls : List Lnk) (ma : Option Addr) (mc : Nat) (ms : List Int) (w : World) (B : Nat) (hl : RowsAt 4 Lnk.cells w B ka ls) (hm : RowsAt 1 icell w B ma ms) (hB : B ≤ w.heap.size) (hlm : ls.length ≤ maxLen) (hmm : ms.length ≤ maxLen) (nl nm : Nat) (hnl : nl = ls.length) (hnm : nm = ms.length) {t : Bool} (ht : rightB ⟨⟨a1, a2, a3, a4, a5, a6, a7⟩, ka, kc, ls, ma, mc, ms⟩ = t) :
    Calls Try.prog 43 #[.agg #[.int .i64 a1, .int .i64 a2, .int .i64 a3, .int .i64 a4, .int .i64 a5, .int .i64 a6, .int .i64 a7, .slice ka nl kc, .slice ma nm mc]] w fun r w' => r = .returned (.bool t) ∧ Below w.heap.size w w' := by
  have hcs := right_cases ⟨⟨a1, a2, a3, a4, a5, a6, a7⟩, ka, kc, ls, ma, mc, ms⟩
  simp only at hcs
  rw [← hnl, ← hnm] at hcs
  obtain ⟨w0, hW0⟩ : ∃ w0, w.alloc (.cells #[.int .i64 a1, .int .i64 a2, .int .i64 a3, .int .i64 a4, .int .i64 a5, .int .i64 a6, .int .i64 a7, .slice ka nl kc, .slice ma nm mc] 30) = w0 := ⟨_, rfl⟩
  have hk0 := Blk.new w 30 #[.int .i64 a1, .int .i64 a2, .int .i64 a3, .int .i64 a4, .int .i64 a5, .int .i64 a6, .int .i64 a7, .slice ka nl kc, .slice ma nm mc]
  have hb0 := (Below.refl w.heap.size w).alloc (Nat.le_refl _) (.cells #[.int .i64 a1, .int .i64 a2, .int .i64 a3, .int .i64 a4, .int .i64 a5, .int .i64 a6, .int .i64 a7, .slice ka nl kc, .slice ma nm mc] 30)
  rw [hW0] at hk0 hb0
  have Hk0 := Lib.hid hk0
  have Hb0 := Lib.hid hb0
  have Hl := Lib.hid (hl.more hB)
  have Hm := Lib.hid (hm.more hB)
  obtain ⟨z0, z1, z2, z3, z4, z5, z6, z7, z8, -⟩ := blk9 hk0
  clear hl hm hB hk0 hb0
  obtain ⟨th, hth⟩ : ∃ th, headB ⟨a1, a2, a3, a4, a5, a6, a7⟩ = th := ⟨_, rfl⟩
  obtain ⟨tl, htl⟩ : ∃ tl, linksB ls = tl := ⟨_, rfl⟩
  obtain ⟨tm, htm⟩ : ∃ tm, membersB ms = tm := ⟨_, rfl⟩
  obtain ⟨ti, hti⟩ : ∃ ti, inB a3 0 63 = ti := ⟨_, rfl⟩
  rw [hth, htl, htm, hti, ht] at hcs
  have Hth := Lib.hid hth
  have Htl := Lib.hid htl
  have Htm := Lib.hid htm
  have Hti := Lib.hid hti
  clear ht hth htl htm hti
  have HC := Lib.hid (fun W (hW : Below w.heap.size w W) => lsaHead_any a1 a2 a3 a4 a5 a6 a7 W Hth.out)
  have HL := Lib.hid (fun W (hW : Below w.heap.size w W) => lsaLinks_any ka kc ls W w.heap.size (Hl.out.below hW) hW.size hlm Htl.out nl hnl)
  have HM := Lib.hid (fun W (hW : Below w.heap.size w W) => lsaMembers_any ma mc ms W w.heap.size (Hm.out.below hW) hW.size hmm Htm.out nm hnm)
  clear hnl hnm
  rcases hcs with ⟨h1, rfl⟩ | ⟨h1, h2, h3, rfl⟩ | ⟨h1, h2, h3, h4, rfl⟩ | ⟨h1, h2, h3, rfl, rfl⟩ | ⟨h1, h2, h3, rfl⟩ | ⟨h1, h2, h3, h4, rfl⟩ | ⟨h1, h2, h3, rfl, rfl⟩
  all_goals
    subst h1
    go_enter Try.func43, Try.ntmps43
    go_wp2_with fail
    with_reducible refine Calls.mono (HC.out _ Hb0.out) ?_
    rintro r w2 ⟨rfl, hb2⟩
    obtain ⟨y0, y1, y2, y3, y4, y5, y6, y7, y8, -⟩ := blk9 (Hk0.out.below hb2 Hk0.out.lt)
    have Hb2 := Lib.hid (Hb0.out.trans (hb2.mono Hb0.out.size))
    clear z0 z1 z2 z3 z4 z5 z6 z7 z8 hb2
  · go_wp2
    go_ret
    exact ⟨rfl, Hb2.out⟩
  · have g1 := of_decide_eq_false h3
    go_wp2
    go_ret
    exact ⟨rfl, Hb2.out⟩
  · have g1 := of_decide_eq_true h3
    have g2 : ¬(nm : Int) = 0 := by omega
    subst g1
    go_wp2
    go_ret
    exact ⟨rfl, Hb2.out⟩
  · have g1 := of_decide_eq_true h3
    subst g1
    go_wp2_with fail
    with_reducible refine Calls.mono (HL.out _ Hb2.out) ?_
    rintro r w3 ⟨rfl, hb3⟩
    have Hb3 := Lib.hid (Hb2.out.trans (hb3.mono Hb2.out.size))
    clear hb3
    go_wp2
    go_ret
    exact ⟨rfl, Hb3.out⟩
  · subst h3
    go_wp2_with (go_at_call 68; (with_reducible refine Calls.mono (in_v a3 0 63 _ Hti.out) ?_); rintro r w3 ⟨rfl, rfl⟩)
    go_ret
    exact ⟨rfl, Hb2.out⟩
  · subst h3
    have g2 : ¬(nl : Int) = 0 := by omega
    go_wp2_with (go_at_call 68; (with_reducible refine Calls.mono (in_v a3 0 63 _ Hti.out) ?_); rintro r w3 ⟨rfl, rfl⟩)
    go_ret
    exact ⟨rfl, Hb2.out⟩
  · subst h3
    go_wp2_with (first
      | (go_at_call 68; (with_reducible refine Calls.mono (in_v a3 0 63 _ Hti.out) ?_); rintro r w3 ⟨rfl, rfl⟩)
      | (go_at_call 69; (with_reducible refine Calls.mono (HM.out _ Hb2.out) ?_); rintro r w3 ⟨rfl, hb3⟩; have Hb3 := Lib.hid (Hb2.out.trans (hb3.mono Hb2.out.size)); clear hb3))
    go_ret
    exact ⟨rfl, Hb3.out⟩

end Go.Proofs.Ytpfjgecdlilkcaa
