/-
  The law SpfSteps: its walk.
-/
import Derived.Test.YtpfjgecdlilkcaaSpWakes
import Derived.Test.YtpfjgecdlilkcaaSpUse
namespace Go.Proofs.Ytpfjgecdlilkcaa
open Go.RowKit

theorem tmod15 (a : Nat) : Int.tmod (a : Int) 15 = ((a % 15 : Nat) : Int) := by
  rw [Int.tmod_eq_emod_of_nonneg (by omega)]
  exact_mod_cast rfl
set_option maxHeartbeats 16000000 in
set_option maxRecDepth 100000 in
theorem spfSteps_any (a : Nat) (ha : a ≤ 255) (A : Option Addr) (cap : Nat) (E : List Ed) (w : World) (hl : RowsAt 5 Ed.cells w w.heap.size A E) (hm : E.length ≤ maxLen) :
    Calls Try.prog 9 #[.int .u8 a, .slice A E.length cap] w fun r w' => r = .returned (.bool true) ∧ Below w.heap.size w w' := by
  have HE := Lib.hid hl
  obtain ⟨DD, hD⟩ := dists_are E
  have HD := Lib.hid hD
  unfold maxLen at hm
  have hai : (a : Int) ≤ 255 := by omega
  have hrem := tmod15 a
  obtain ⟨kk, hkk⟩ : ∃ kk, a % 15 = kk := ⟨_, rfl⟩
  have hkk15 : kk < 15 := by rw [← hkk]; omega
  rw [hkk] at hrem
  clear hl hD hkk ha
  go_enter Try.func9, Try.ntmps9
  go_wp2_with fail
  with_reducible refine Calls.mono (wakes21 _) ?_
  rintro r w1 ⟨rfl, hb1⟩
  have Hb1 := Lib.hid hb1
  clear hb1
  by_cases h60 : (60 : Int) < (E.length : Int)
  · go_wp2
    go_ret
    exact ⟨rfl, Hb1.out⟩
  · have hE60 : E.length ≤ 60 := by omega
    have HE60 := Lib.hid hE60
    have hki : (kk : Int) < 15 := by omega
    have hid : (1 : Int) + (kk : Int) = ((1 + kk : Nat) : Int) := by omega
    obtain ⟨id, hidd⟩ : ∃ i : Int, (1 : Int) + (kk : Int) = i := ⟨_, rfl⟩
    have hm0 : mayV ⟨1, id⟩ = true := mayV_iff.2 (.inl ⟨rfl, by simp only; omega, by simp only; omega⟩)
    have Hm0 := Lib.hid hm0
    have HT := Lib.hid (fun i W (hW : Below w.heap.size w W) => Tree_any i A cap E W ((HE.out.below hW).more hW.size) (by omega) E.length rfl DD HD.out)
    clear hm0 hE60 hid
    go_wp2_with fail
    with_reducible refine Calls.mono (HT.out id _ Hb1.out) ?_
    rintro r w3 ⟨⟨v, N, rfl, hN, hTr⟩, hb3⟩
    have Htr := Lib.hid (hTr.1 Hm0.out)
    have HNl := Lib.hid (treeOf_len HD.out hTr)
    have hlow := treeOf_low rfl hTr
    obtain ⟨A5, c5, hv⟩ := hN.row.shape
    subst hv
    obtain ⟨nN, hnN⟩ : ∃ n, N.length = n := ⟨_, rfl⟩
    rw [hnN] at hN ⊢
    have HN := Lib.hid (fun W hW => hN.reads (w' := W) hW hlow)
    have HnN := Lib.hid hnN
    have hnN2 : (nN : Int) ≤ 79 := by have := HNl.out; omega
    have Hb3 := Lib.hid (below_trans Hb1.out Hb1.out.size hb3)
    clear hN hTr hlow hnN hb3
    go_wp2
    go_loopw [27] (fun i wr => ∃ k : Nat, i = .int .i64 k ∧ k ≤ nN ∧ Below w3.heap.size w3 wr) (fun i _ => nN - (intOf i).toNat)
    case atStart => exact ⟨0, rfl, Nat.zero_le _, Below.refl _ _⟩
    case round =>
      obtain ⟨k, rfl, hk, hb⟩ := hrel
      by_cases hlt : k < nN
      · have hki2 : (k : Int) < (nN : Int) := by omega
        have hkL : k < N.length := by rw [HnN.out]; exact hlt
        have hNr := HN.out wr hb
        obtain ⟨g, o, hA, -, x0, x1, x2, x3, x4⟩ := row_nd hNr.rows k hkL
        have hxm := List.getElem_mem hkL
        have hxr := hNr.each _ hxm
        have hxl := hNr.low _ hxm
        have hxt : (N[k]).nk ∈ N.map NodeM.nk := List.mem_map.2 ⟨_, hxm, rfl⟩
        have hval := Htr.out.val _ hxt
        have hnx := (Htr.out.next _ hxt).2
        subst hA
        generalize N[k] = x at *
        obtain ⟨⟨vk, vi⟩, ⟨xa, xh⟩, xA, xc, xn⟩ := x
        unfold NodeM.nk at hval hnx
        simp only at x0 x1 x2 x3 x4 hxr hxl hval hnx
        obtain ⟨nl, hnl⟩ : ∃ n, xn.length = n := ⟨_, rfl⟩
        rw [hnl] at x4 hxl
        have hnl2 : (nl : Int) ≤ 65536 := by omega
        have hdl := dist_low HD.out (by have := HE60.out; omega) hval
        simp only at hdl
        have hxa2 : (xa : Int) ≤ 100000000 := by omega
        have hxa3 : 0 ≤ (xa : Int) := by omega
        have hb6 := below_new wr (.cells #[.int .i64 vk, .int .i64 vi, .int .i64 xa, .int .i64 xh, .slice xA nl xc] 59)
        have hk6 := Blk.new wr 59 #[.int .i64 vk, .int .i64 vi, .int .i64 xa, .int .i64 xh, .slice xA nl xc]
        obtain ⟨w6, hw6⟩ : ∃ w6, wr.alloc (.cells #[.int .i64 vk, .int .i64 vi, .int .i64 xa, .int .i64 xh, .slice xA nl xc] 59) = w6 := ⟨_, rfl⟩
        obtain ⟨g6, hg6⟩ : ∃ g6, wr.heap.size = g6 := ⟨_, rfl⟩
        rw [hw6, hg6] at hk6
        rw [hw6] at hb6
        have Hb6 := Lib.hid (below_trans hb hb.size hb6)
        have Hk6 := Lib.hid hk6
        have Hxr := Lib.hid ((hxr.below hb6).more hb6.size)
        have Hnx := Lib.hid hnx
        have Hval := Lib.hid hval
        have Hnl := Lib.hid hnl
        have Hlt := Lib.hid hlt
        obtain ⟨⟨z0, z1, z2, z3, z4⟩, -⟩ := blk5 hk6
        clear hNr hxm hxr hxl hxt hval hnx hdl hb6 hk6 hnl hlt hkL hb hk
        go_wp2
        clear x0 x1 x2 x3 x4 z0 z1 z2 z3 z4 hw6 hg6
        go_loopw [34] (fun i wq => ∃ j : Nat, i = .int .i64 j ∧ j ≤ nl ∧ Below w6.heap.size w6 wq) (fun i _ => nl - (intOf i).toNat)
        case atStart => exact ⟨0, rfl, Nat.zero_le _, Below.refl _ _⟩
        case round =>
          obtain ⟨j, rfl, hj, hb⟩ := hrel
          by_cases hjl : j < nl
          · have hji : (j : Int) < (nl : Int) := by omega
            have hjL : j < xn.length := by rw [Hnl.out]; exact hjl
            obtain ⟨g', o', hA', -, y0, y1⟩ := row_hp ((Hxr.out.below hb).more hb.size) j hjL
            have hho := (Hnx.out _).1 (List.getElem_mem hjL)
            have hst := isHop_steps HD.out rfl Hm0.out Hval.out hho
            subst hA'
            obtain ⟨⟨h1, h2⟩, hh⟩ : ∃ h, xn[j]'hjL = h := ⟨_, rfl⟩
            rw [hh] at y0 y1 hst
            simp only at y0 y1 hst
            have Hjl := Lib.hid hjl
            have hkr := Hk6.out.below hb Hk6.out.lt
            have hb9 := below_new wr (.cells #[.int .i64 h1, .int .i64 h2] 68)
            have hk9 := Blk.new wr 68 #[.int .i64 h1, .int .i64 h2]
            obtain ⟨w9, hw9⟩ : ∃ w9, wr.alloc (.cells #[.int .i64 h1, .int .i64 h2] 68) = w9 := ⟨_, rfl⟩
            obtain ⟨g9, hg9⟩ : ∃ g9, wr.heap.size = g9 := ⟨_, rfl⟩
            rw [hw9, hg9] at hk9
            rw [hw9] at hb9
            have Hb9 := Lib.hid (below_trans hb hb.size hb9)
            have Hk9 := Lib.hid hk9
            have Hk69 := Lib.hid (hkr.below hb9 hkr.lt)
            obtain ⟨k0, k1, -, -⟩ := hk9.cells2
            obtain ⟨⟨z0, z1, z2, z3, z4⟩, -⟩ := blk5 Hk69.out
            clear hho hh hjl hjL hkr hb9 hk9 hb hj
            rcases hst with ⟨q1, q2, q3, q4⟩ | ⟨q1, q2, q3, b, y, hb', hy', q4, q5⟩
            · have c1 : (h2 == 0) = true := by simp [q1]
              have c2 : (vk != 2) = false := by simp [q2]
              have c3 : (vi / 16 != h1) = false := by simp [q3]
              have c4 : ((xh : Int) != 1) = false := by simp [q4]
              have hsh := shr16 vi
              clear q1 q2 q3 q4
              go_wp2
              go_roundw
              case measure => have := Hjl.out; simp [intOf]; omega
              case rel => exact ⟨j + 1, by go_num, Hjl.out, Hb9.out⟩
            · have c1 : (h2 == 0) = false := by simp [q1]
              go_wp2
              clear y0 y1 k0 k1 z0 z1 z2 z3 z4 hw9 hg9 c1
              have Hw9 := Lib.hid (below_trans (below_trans (below_trans Hb3.out Hb3.out.size Hb6.out) (below_trans Hb3.out Hb3.out.size Hb6.out).size Hb9.out) (below_trans (below_trans Hb3.out Hb3.out.size Hb6.out) (below_trans Hb3.out Hb3.out.size Hb6.out).size Hb9.out).size (Below.refl _ _))
              have Hq1 := Lib.hid q1
              have Hq2 := Lib.hid q2
              have Hm5 := Lib.hid (show mayV ⟨1, h2⟩ = true from mayV_iff.2 (.inl ⟨rfl, q3.1, q3.2⟩))
              have Hbb := Lib.hid hb'
              have Hyy := Lib.hid hy'
              have Hq4 := Lib.hid q4
              have Hq5 := Lib.hid q5
              clear q1 q2 q3 hb' hy' q4 q5
              refine wp_region_F (F := fun W => Below w9.heap.size w9 W) (n := 12) (m := 13) (s := #[false, false, false, false, false, false, false, false, false, false, false, false, false]) (by kernel_rfl) (by kernel_rfl) (by kernel_rfl) ?_
              intro wd hwd
              have hF : Below w9.heap.size w9 wd := by rw [hwd.out]; exact (Below.refl _ _).drew
              clear hwd
              refine F_take (i := 0) (d := some 60) (by kernel_rfl) (by kernel_rfl) (by decide) (s' := #[true, false, false, false, false, false, false, false, false, false, false, false, false]) (by kernel_rfl) rfl rfl (by kernel_rfl) (by kernel_rfl) (by kernel_rfl) (fun _ _ _ h => h) (Or.inl ⟨by kernel_rfl, fun W hW => by go_simp; try with_reducible rfl⟩) hF ?_
              go_frame
              refine F_take (i := 1) (d := some 61) (by kernel_rfl) (by kernel_rfl) (by decide) (s' := #[true, true, false, false, false, false, false, false, false, false, false, false, false]) (by kernel_rfl) rfl rfl (by kernel_rfl) (by kernel_rfl) (by kernel_rfl) (fun _ _ _ h => h) (Or.inl ⟨by kernel_rfl, fun W hW => by obtain ⟨⟨z0, z1, z2, z3, z4⟩, -⟩ := blk5 (Hk69.out.below hW Hk69.out.lt); go_simp; try with_reducible rfl⟩) hF ?_
              go_frame
              refine F_take (i := 2) (d := some 62) (by kernel_rfl) (by kernel_rfl) (by decide) (s' := #[true, true, true, false, false, false, false, false, false, false, false, false, false]) (by kernel_rfl) rfl rfl (by kernel_rfl) (by kernel_rfl) (by kernel_rfl) (fun _ _ _ h => h) (Or.inl ⟨by kernel_rfl, fun W hW => by go_simp; try with_reducible rfl⟩) hF ?_
              go_frame
              refine F_take (i := 3) (d := some 63) (by kernel_rfl) (by kernel_rfl) (by decide) (s' := #[true, true, true, true, false, false, false, false, false, false, false, false, false]) (by kernel_rfl) rfl rfl (by kernel_rfl) (by kernel_rfl) (by kernel_rfl) (fun _ _ _ h => h) (Or.inl ⟨by kernel_rfl, fun W hW => by obtain ⟨k0, k1, -, -⟩ := (Hk9.out.below hW Hk9.out.lt).cells2; go_simp; try with_reducible rfl⟩) hF ?_
              go_frame
              refine F_take (i := 4) (d := some 64) (by kernel_rfl) (by kernel_rfl) (by decide) (s' := #[true, true, true, true, true, false, false, false, false, false, false, false, false]) (by kernel_rfl) rfl rfl (by kernel_rfl) (by kernel_rfl) (by kernel_rfl) (fun _ _ _ h => h) (Or.inl ⟨by kernel_rfl, fun W hW => by go_simp; try with_reducible rfl⟩) hF ?_
              go_frame
              refine F_two (i := 5) (j := 10) (si := #[true, true, true, true, true, true, false, false, false, false, false, false, false]) (sj := #[true, true, true, true, true, false, false, false, false, false, true, false, false]) (by kernel_rfl) (by kernel_rfl) (by kernel_rfl) ?_ ?_
              · refine wpOp_enterL (i := 5) (d := some 65) (f := 27) (args := #[.int .i64 h2, .slice A E.length cap]) rfl rfl (by kernel_rfl) (by go_simp) ((HT.out h2 wd (Hw9.out.trans (hF.mono Hw9.out.size))).mono ?_)
                rintro r w5 ⟨⟨v5, N5, rfl, hN5, hT5⟩, hb5⟩
                obtain ⟨A6, c6, hv5⟩ := hN5.row.shape
                subst hv5
                have hF := below_trans hF hF.size hb5
                have hl5 := treeOf_len HD.out hT5
                have hlw5 := treeOf_low rfl hT5
                obtain ⟨n5, hn5⟩ : ∃ n, N5.length = n := ⟨_, rfl⟩
                rw [hn5] at hN5 ⊢
                obtain ⟨x5, hfx, -, -, hxa5⟩ := find_has (hT5.1 Hm5.out) Hbb.out
                have hNr := hN5.reads (Below.refl _ _) hlw5
                refine ⟨_, rfl, fun _ => hF, ?_⟩
                go_frame
                clear hN5 hT5 hb5
                refine F_two (i := 6) (j := 10) (si := #[true, true, true, true, true, true, true, false, false, false, false, false, false]) (sj := #[true, true, true, true, true, true, false, false, false, false, true, false, false]) (by kernel_rfl) (by kernel_rfl) (by kernel_rfl) ?_ ?_
                · refine wpOp_enterL (i := 6) (d := some 66) (f := 30) (args := #[.agg #[.int .i64 vk, .int .i64 vi], .slice A6 n5 c6]) rfl rfl (by kernel_rfl) (by go_simp) ((Find_any vk vi A6 c6 n5 N5 w5 hNr (by omega) hn5.symm).mono ?_)
                  rintro r w7 ⟨hfo, hb7⟩
                  have hF := below_trans hF hF.size hb7
                  rcases hfo with ⟨x, A7, c7, hx, rfl, -⟩ | ⟨hx, -⟩
                  rotate_left
                  · rw [hfx] at hx; cases hx
                  rw [hfx] at hx
                  injection hx with hx
                  subst hx
                  obtain ⟨⟨q1, q2⟩, ⟨q3, q4⟩, qn⟩ := x5
                  have hq3 : q3 = b.c := by have := congrArg Val2.c hxa5; exact this
                  subst hq3
                  obtain ⟨nq, hnq⟩ : ∃ n, qn.length = n := ⟨_, rfl⟩
                  simp only
                  rw [hnq]
                  refine ⟨_, rfl, fun _ => hF, ?_⟩
                  go_frame
                  clear hxa5 hfx hn5 hl5 hlw5 hb7 hnq hNr
                  refine F_take (i := 7) (d := some 59) (by kernel_rfl) (by kernel_rfl) (by decide) (s' := #[true, true, true, true, true, true, true, true, false, false, false, false, false]) (by kernel_rfl) rfl rfl (by kernel_rfl) (by kernel_rfl) (by kernel_rfl) (fun _ _ _ h => h) (Or.inl ⟨by kernel_rfl, fun W hW => by go_simp; try with_reducible rfl⟩) hF ?_
                  go_frame
                  refine F_take (i := 8) (d := some 67) (by kernel_rfl) (by kernel_rfl) (by decide) (s' := #[true, true, true, true, true, true, true, true, true, false, false, false, false]) (by kernel_rfl) rfl rfl (by kernel_rfl) (by kernel_rfl) (by kernel_rfl) (fun _ _ _ h => h) (Or.inl ⟨by kernel_rfl, fun W hW => by go_simp; try with_reducible rfl⟩) hF ?_
                  go_frame
                  refine F_take (i := 9) (d := some 68) (by kernel_rfl) (by kernel_rfl) (by decide) (s' := #[true, true, true, true, true, true, true, true, true, true, false, false, false]) (by kernel_rfl) rfl rfl (by kernel_rfl) (by kernel_rfl) (by kernel_rfl) (fun _ _ _ h => h) (Or.inl ⟨by kernel_rfl, fun W hW => by go_simp; try with_reducible rfl⟩) hF ?_
                  go_frame
                  obtain ⟨we, hV⟩ : ∃ v, w7.alloc (.cells #[.int .i64 0, .int .i64 0, .int .i64 0, .int .i64 0, .slice none 0 0] 59) = v := ⟨_, rfl⟩
                  have hbq := below_new w7 (.cells #[.int .i64 0, .int .i64 0, .int .i64 0, .int .i64 0, .slice none 0 0] 59)
                  have kx := Blk.new w7 59 #[.int .i64 0, .int .i64 0, .int .i64 0, .int .i64 0, .slice none 0 0]
                  obtain ⟨px, hpx⟩ : ∃ p, w7.heap.size = p := ⟨_, rfl⟩
                  rw [hV] at hbq kx
                  rw [hpx] at kx
                  have hBp : w9.heap.size ≤ px := by have := hF.size; omega
                  have hF := below_trans hF hF.size hbq
                  refine F_one (i := 10) (s' := #[true, true, true, true, true, true, true, true, true, true, true, false, false]) (by kernel_rfl) (by kernel_rfl) (wpOp_valueL (i := 10) (d := some 10) (w' := we) (v := .pointer (some ⟨px, 0, none⟩)) rfl rfl (by kernel_rfl) (by go_simp) ⟨fun _ => hF, ?_⟩)
                  go_frame
                  clear hbq hV hpx
                  obtain ⟨wz, hwz⟩ : ∃ v, (((((we.setCell ⟨px, 0, none⟩ (.int .i64 q1)).setCell ⟨px, 1, none⟩ (.int .i64 q2)).setCell ⟨px, 2, none⟩ (.int .i64 b.c)).setCell ⟨px, 3, none⟩ (.int .i64 q4)).setCell ⟨px, 4, none⟩ (.slice A7 nq c7)) = v := ⟨_, rfl⟩
                  obtain ⟨⟨s0, s1, s2, s3, s4⟩, sf0, sf1, sf2, sf3, sf4⟩ := blk5 kx
                  have kx := Blk.put5 kx (.int .i64 q1) (.int .i64 q2) (.int .i64 b.c) (.int .i64 q4) (.slice A7 nq c7)
                  have hF := below_put5 hF hBp (.int .i64 q1) (.int .i64 q2) (.int .i64 b.c) (.int .i64 q4) (.slice A7 nq c7)
                  rw [hwz] at kx hF
                  refine F_one (i := 11) (s' := #[true, true, true, true, true, true, true, true, true, true, true, true, false]) (by kernel_rfl) (by kernel_rfl) (wpOp_skipL (i := 11) (w' := wz) rfl rfl (by kernel_rfl) (by go_simp) ⟨fun _ => hF, ?_⟩)
                  go_frame
                  clear hwz s0 s1 s2 s3 s4 sf0 sf1 sf2 sf3 sf4
                  refine F_one (i := 12) (s' := #[true, true, true, true, true, true, true, true, true, true, true, true, true]) (by kernel_rfl) (by kernel_rfl) (wpOp_valueL (i := 12) (d := some 11) (w' := wz) (v := .bool true) rfl rfl (by kernel_rfl) (by go_simp) ⟨fun h => absurd h (by decide), ?_⟩)
                  go_frame
                  refine F_done (by kernel_rfl) ?_ _
                  obtain ⟨w15, hw15⟩ : ∃ v, v = wz := ⟨_, rfl⟩
                  subst hw15
                  have HF1 := Lib.hid hF
                  have K10a := Lib.hid kx
                  clear hF kx hBp
                  go_wp2_with fail
                  refine wp_region_F (F := fun W => Below w15.heap.size w15 W) (n := 12) (m := 13) (s := #[false, false, false, false, false, false, false, false, false, false, false, false, false]) (by kernel_rfl) (by kernel_rfl) (by kernel_rfl) ?_
                  intro wd hwd
                  have hF : Below w15.heap.size w15 wd := by rw [hwd.out]; exact (Below.refl _ _).drew
                  clear hwd
                  refine F_take (i := 0) (d := some 70) (by kernel_rfl) (by kernel_rfl) (by decide) (s' := #[true, false, false, false, false, false, false, false, false, false, false, false, false]) (by kernel_rfl) rfl rfl (by kernel_rfl) (by kernel_rfl) (by kernel_rfl) (fun _ _ _ h => h) (Or.inl ⟨by kernel_rfl, fun W hW => by go_simp; try with_reducible rfl⟩) hF ?_
                  go_frame
                  refine F_take (i := 1) (d := some 71) (by kernel_rfl) (by kernel_rfl) (by decide) (s' := #[true, true, false, false, false, false, false, false, false, false, false, false, false]) (by kernel_rfl) rfl rfl (by kernel_rfl) (by kernel_rfl) (by kernel_rfl) (fun _ _ _ h => h) (Or.inl ⟨by kernel_rfl, fun W hW => by obtain ⟨k0, k1, -, -⟩ := (Hk9.out.below (below_trans HF1.out HF1.out.size hW) Hk9.out.lt).cells2; go_simp; try with_reducible rfl⟩) hF ?_
                  go_frame
                  refine F_take (i := 2) (d := some 72) (by kernel_rfl) (by kernel_rfl) (by decide) (s' := #[true, true, true, false, false, false, false, false, false, false, false, false, false]) (by kernel_rfl) rfl rfl (by kernel_rfl) (by kernel_rfl) (by kernel_rfl) (fun _ _ _ h => h) (Or.inl ⟨by kernel_rfl, fun W hW => by go_simp; try with_reducible rfl⟩) hF ?_
                  go_frame
                  refine F_take (i := 3) (d := some 73) (by kernel_rfl) (by kernel_rfl) (by decide) (s' := #[true, true, true, true, false, false, false, false, false, false, false, false, false]) (by kernel_rfl) rfl rfl (by kernel_rfl) (by kernel_rfl) (by kernel_rfl) (fun _ _ _ h => h) (Or.inl ⟨by kernel_rfl, fun W hW => by go_simp; try with_reducible rfl⟩) hF ?_
                  go_frame
                  refine F_take (i := 4) (d := some 74) (by kernel_rfl) (by kernel_rfl) (by decide) (s' := #[true, true, true, true, true, false, false, false, false, false, false, false, false]) (by kernel_rfl) rfl rfl (by kernel_rfl) (by kernel_rfl) (by kernel_rfl) (fun _ _ _ h => h) (Or.inl ⟨by kernel_rfl, fun W hW => by go_simp; try with_reducible rfl⟩) hF ?_
                  go_frame
                  refine F_two (i := 5) (j := 10) (si := #[true, true, true, true, true, true, false, false, false, false, false, false, false]) (sj := #[true, true, true, true, true, false, false, false, false, false, true, false, false]) (by kernel_rfl) (by kernel_rfl) (by kernel_rfl) ?_ ?_
                  · refine wpOp_enterL (i := 5) (d := some 75) (f := 27) (args := #[.int .i64 id, .slice A E.length cap]) rfl rfl (by kernel_rfl) (by go_simp) ((HT.out id wd ((Hw9.out.trans (HF1.out.mono Hw9.out.size)).trans (hF.mono (Hw9.out.trans (HF1.out.mono Hw9.out.size)).size))).mono ?_)
                    rintro r w5 ⟨⟨v5, N5, rfl, hN5, hT5⟩, hb5⟩
                    obtain ⟨A6, c6, hv5⟩ := hN5.row.shape
                    subst hv5
                    have hF := below_trans hF hF.size hb5
                    have hl5 := treeOf_len HD.out hT5
                    have hlw5 := treeOf_low rfl hT5
                    obtain ⟨n5, hn5⟩ : ∃ n, N5.length = n := ⟨_, rfl⟩
                    rw [hn5] at hN5 ⊢
                    obtain ⟨x5, hfx, -, -, hxa5⟩ := find_has (hT5.1 Hm0.out) Hyy.out
                    have hNr := hN5.reads (Below.refl _ _) hlw5
                    refine ⟨_, rfl, fun _ => hF, ?_⟩
                    go_frame
                    clear hN5 hT5 hb5
                    refine F_two (i := 6) (j := 10) (si := #[true, true, true, true, true, true, true, false, false, false, false, false, false]) (sj := #[true, true, true, true, true, true, false, false, false, false, true, false, false]) (by kernel_rfl) (by kernel_rfl) (by kernel_rfl) ?_ ?_
                    · refine wpOp_enterL (i := 6) (d := some 76) (f := 30) (args := #[.agg #[.int .i64 1, .int .i64 h2], .slice A6 n5 c6]) rfl rfl (by kernel_rfl) (by go_simp) ((Find_any 1 h2 A6 c6 n5 N5 w5 hNr (by omega) hn5.symm).mono ?_)
                      rintro r w7 ⟨hfo, hb7⟩
                      have hF := below_trans hF hF.size hb7
                      rcases hfo with ⟨x, A7, c7, hx, rfl, -⟩ | ⟨hx, -⟩
                      rotate_left
                      · rw [hfx] at hx; cases hx
                      rw [hfx] at hx
                      injection hx with hx
                      subst hx
                      obtain ⟨⟨q1, q2⟩, ⟨q3, q4⟩, qn⟩ := x5
                      have hq3 : q3 = y.c := by have := congrArg Val2.c hxa5; exact this
                      subst hq3
                      obtain ⟨nq, hnq⟩ : ∃ n, qn.length = n := ⟨_, rfl⟩
                      simp only
                      rw [hnq]
                      refine ⟨_, rfl, fun _ => hF, ?_⟩
                      go_frame
                      clear hxa5 hfx hn5 hl5 hlw5 hb7 hnq hNr
                      refine F_take (i := 7) (d := some 69) (by kernel_rfl) (by kernel_rfl) (by decide) (s' := #[true, true, true, true, true, true, true, true, false, false, false, false, false]) (by kernel_rfl) rfl rfl (by kernel_rfl) (by kernel_rfl) (by kernel_rfl) (fun _ _ _ h => h) (Or.inl ⟨by kernel_rfl, fun W hW => by go_simp; try with_reducible rfl⟩) hF ?_
                      go_frame
                      refine F_take (i := 8) (d := some 77) (by kernel_rfl) (by kernel_rfl) (by decide) (s' := #[true, true, true, true, true, true, true, true, true, false, false, false, false]) (by kernel_rfl) rfl rfl (by kernel_rfl) (by kernel_rfl) (by kernel_rfl) (fun _ _ _ h => h) (Or.inl ⟨by kernel_rfl, fun W hW => by go_simp; try with_reducible rfl⟩) hF ?_
                      go_frame
                      refine F_take (i := 9) (d := some 78) (by kernel_rfl) (by kernel_rfl) (by decide) (s' := #[true, true, true, true, true, true, true, true, true, true, false, false, false]) (by kernel_rfl) rfl rfl (by kernel_rfl) (by kernel_rfl) (by kernel_rfl) (fun _ _ _ h => h) (Or.inl ⟨by kernel_rfl, fun W hW => by go_simp; try with_reducible rfl⟩) hF ?_
                      go_frame
                      obtain ⟨we, hV⟩ : ∃ v, w7.alloc (.cells #[.int .i64 0, .int .i64 0, .int .i64 0, .int .i64 0, .slice none 0 0] 59) = v := ⟨_, rfl⟩
                      have hbq := below_new w7 (.cells #[.int .i64 0, .int .i64 0, .int .i64 0, .int .i64 0, .slice none 0 0] 59)
                      have kx := Blk.new w7 59 #[.int .i64 0, .int .i64 0, .int .i64 0, .int .i64 0, .slice none 0 0]
                      obtain ⟨px, hpx⟩ : ∃ p, w7.heap.size = p := ⟨_, rfl⟩
                      rw [hV] at hbq kx
                      rw [hpx] at kx
                      have hBp : w15.heap.size ≤ px := by have := hF.size; omega
                      have hF := below_trans hF hF.size hbq
                      refine F_one (i := 10) (s' := #[true, true, true, true, true, true, true, true, true, true, true, false, false]) (by kernel_rfl) (by kernel_rfl) (wpOp_valueL (i := 10) (d := some 12) (w' := we) (v := .pointer (some ⟨px, 0, none⟩)) rfl rfl (by kernel_rfl) (by go_simp) ⟨fun _ => hF, ?_⟩)
                      go_frame
                      clear hbq hV hpx
                      obtain ⟨wz, hwz⟩ : ∃ v, (((((we.setCell ⟨px, 0, none⟩ (.int .i64 q1)).setCell ⟨px, 1, none⟩ (.int .i64 q2)).setCell ⟨px, 2, none⟩ (.int .i64 y.c)).setCell ⟨px, 3, none⟩ (.int .i64 q4)).setCell ⟨px, 4, none⟩ (.slice A7 nq c7)) = v := ⟨_, rfl⟩
                      obtain ⟨⟨s0, s1, s2, s3, s4⟩, sf0, sf1, sf2, sf3, sf4⟩ := blk5 kx
                      have kx := Blk.put5 kx (.int .i64 q1) (.int .i64 q2) (.int .i64 y.c) (.int .i64 q4) (.slice A7 nq c7)
                      have hF := below_put5 hF hBp (.int .i64 q1) (.int .i64 q2) (.int .i64 y.c) (.int .i64 q4) (.slice A7 nq c7)
                      rw [hwz] at kx hF
                      refine F_one (i := 11) (s' := #[true, true, true, true, true, true, true, true, true, true, true, true, false]) (by kernel_rfl) (by kernel_rfl) (wpOp_skipL (i := 11) (w' := wz) rfl rfl (by kernel_rfl) (by go_simp) ⟨fun _ => hF, ?_⟩)
                      go_frame
                      clear hwz s0 s1 s2 s3 s4 sf0 sf1 sf2 sf3 sf4
                      refine F_one (i := 12) (s' := #[true, true, true, true, true, true, true, true, true, true, true, true, true]) (by kernel_rfl) (by kernel_rfl) (wpOp_valueL (i := 12) (d := some 13) (w' := wz) (v := .bool true) rfl rfl (by kernel_rfl) (by go_simp) ⟨fun h => absurd h (by decide), ?_⟩)
                      go_frame
                      refine F_done (by kernel_rfl) ?_ _
                      have HF2 := Lib.hid (below_trans HF1.out HF1.out.size hF)
                      have K10 := Lib.hid (K10a.out.below hF K10a.out.lt)
                      have K12 := Lib.hid kx
                      clear hF kx hBp
                      have c2 : (h2 == id) = false := by simp; exact Hq2.out
                      have c3 : (((b.c : Nat) : Int) + ((y.c : Nat) : Int) != (xa : Int)) = false := by have := Hq4.out; simp; omega
                      have c4 : decide ((y.c : Int) < 1) = false := by have := Hq5.out; simp; omega
                      have hbl := dist_low HD.out (by have := HE60.out; omega) Hbb.out
                      have hyl := dist_low HD.out (by have := HE60.out; omega) Hyy.out
                      have hbl2 : (b.c : Int) ≤ 100000000 := by omega
                      have hyl2 : (y.c : Int) ≤ 100000000 := by omega
                      have hbl3 : 0 ≤ (b.c : Int) := by omega
                      have hyl3 : 1 ≤ (y.c : Int) := by have := Hq5.out; omega
                      have hsum : (b.c : Int) + (y.c : Int) = (xa : Int) := by have := Hq4.out; omega
                      obtain ⟨k0, k1, -, -⟩ := (Hk9.out.below HF2.out Hk9.out.lt).cells2
                      obtain ⟨⟨z0, z1, z2, z3, z4⟩, -⟩ := blk5 (Hk69.out.below HF2.out Hk69.out.lt)
                      obtain ⟨⟨p0, p1, p2, p3, p4⟩, -⟩ := blk5 (K10.out)
                      obtain ⟨⟨r0, r1, r2, r3, r4⟩, -⟩ := blk5 (K12.out)
                      have Hend := Lib.hid (below_trans Hb9.out Hb9.out.size HF2.out)
                      clear hbl hyl
                      go_wp2
                      go_roundw
                      case measure => have := Hjl.out; simp [intOf]; omega
                      case rel => exact ⟨j + 1, by go_num, Hjl.out, Hend.out⟩
                    · obtain ⟨we, hV⟩ : ∃ v, w5.alloc (.cells #[.int .i64 0, .int .i64 0, .int .i64 0, .int .i64 0, .slice none 0 0] 59) = v := ⟨_, rfl⟩
                      have hbq := below_new w5 (.cells #[.int .i64 0, .int .i64 0, .int .i64 0, .int .i64 0, .slice none 0 0] 59)
                      have kx := Blk.new w5 59 #[.int .i64 0, .int .i64 0, .int .i64 0, .int .i64 0, .slice none 0 0]
                      obtain ⟨px, hpx⟩ : ∃ p, w5.heap.size = p := ⟨_, rfl⟩
                      rw [hV] at hbq kx
                      rw [hpx] at kx
                      have hBp : w15.heap.size ≤ px := by have := hF.size; omega
                      have hF := below_trans hF hF.size hbq
                      have hNr := (hNr.below hbq).more hbq.size
                      refine wpOp_valueL (i := 10) (d := some 12) (w' := we) (v := .pointer (some ⟨px, 0, none⟩)) rfl rfl (by kernel_rfl) (by go_simp) ⟨fun _ => hF, ?_⟩
                      go_frame
                      clear hbq hV hpx
                      refine F_one (i := 6) (s' := #[true, true, true, true, true, true, true, false, false, false, true, false, false]) (by kernel_rfl) (by kernel_rfl) (wpOp_enterL (i := 6) (d := some 76) (f := 30) (args := #[.agg #[.int .i64 1, .int .i64 h2], .slice A6 n5 c6]) rfl rfl (by kernel_rfl) (by go_simp) ((Find_any 1 h2 A6 c6 n5 N5 we hNr (by omega) hn5.symm).mono ?_))
                      rintro r w7 ⟨hfo, hb7⟩
                      have hF := below_trans hF hF.size hb7
                      have kx := kx.below hb7 kx.lt
                      rcases hfo with ⟨x, A7, c7, hx, rfl, -⟩ | ⟨hx, -⟩
                      rotate_left
                      · rw [hfx] at hx; cases hx
                      rw [hfx] at hx
                      injection hx with hx
                      subst hx
                      obtain ⟨⟨q1, q2⟩, ⟨q3, q4⟩, qn⟩ := x5
                      have hq3 : q3 = y.c := by have := congrArg Val2.c hxa5; exact this
                      subst hq3
                      obtain ⟨nq, hnq⟩ : ∃ n, qn.length = n := ⟨_, rfl⟩
                      simp only
                      rw [hnq]
                      refine ⟨_, rfl, fun _ => hF, ?_⟩
                      go_frame
                      clear hxa5 hfx hn5 hl5 hlw5 hb7 hnq hNr
                      refine F_take (i := 7) (d := some 69) (by kernel_rfl) (by kernel_rfl) (by decide) (s' := #[true, true, true, true, true, true, true, true, false, false, true, false, false]) (by kernel_rfl) rfl rfl (by kernel_rfl) (by kernel_rfl) (by kernel_rfl) (fun _ _ _ h => h) (Or.inl ⟨by kernel_rfl, fun W hW => by go_simp; try with_reducible rfl⟩) hF ?_
                      go_frame
                      refine F_take (i := 8) (d := some 77) (by kernel_rfl) (by kernel_rfl) (by decide) (s' := #[true, true, true, true, true, true, true, true, true, false, true, false, false]) (by kernel_rfl) rfl rfl (by kernel_rfl) (by kernel_rfl) (by kernel_rfl) (fun _ _ _ h => h) (Or.inl ⟨by kernel_rfl, fun W hW => by go_simp; try with_reducible rfl⟩) hF ?_
                      go_frame
                      refine F_take (i := 9) (d := some 78) (by kernel_rfl) (by kernel_rfl) (by decide) (s' := #[true, true, true, true, true, true, true, true, true, true, true, false, false]) (by kernel_rfl) rfl rfl (by kernel_rfl) (by kernel_rfl) (by kernel_rfl) (fun _ _ _ h => h) (Or.inl ⟨by kernel_rfl, fun W hW => by go_simp; try with_reducible rfl⟩) hF ?_
                      go_frame
                      obtain ⟨wz, hwz⟩ : ∃ v, (((((w7.setCell ⟨px, 0, none⟩ (.int .i64 q1)).setCell ⟨px, 1, none⟩ (.int .i64 q2)).setCell ⟨px, 2, none⟩ (.int .i64 y.c)).setCell ⟨px, 3, none⟩ (.int .i64 q4)).setCell ⟨px, 4, none⟩ (.slice A7 nq c7)) = v := ⟨_, rfl⟩
                      obtain ⟨⟨s0, s1, s2, s3, s4⟩, sf0, sf1, sf2, sf3, sf4⟩ := blk5 kx
                      have kx := Blk.put5 kx (.int .i64 q1) (.int .i64 q2) (.int .i64 y.c) (.int .i64 q4) (.slice A7 nq c7)
                      have hF := below_put5 hF hBp (.int .i64 q1) (.int .i64 q2) (.int .i64 y.c) (.int .i64 q4) (.slice A7 nq c7)
                      rw [hwz] at kx hF
                      refine F_one (i := 11) (s' := #[true, true, true, true, true, true, true, true, true, true, true, true, false]) (by kernel_rfl) (by kernel_rfl) (wpOp_skipL (i := 11) (w' := wz) rfl rfl (by kernel_rfl) (by go_simp) ⟨fun _ => hF, ?_⟩)
                      go_frame
                      clear hwz s0 s1 s2 s3 s4 sf0 sf1 sf2 sf3 sf4
                      refine F_one (i := 12) (s' := #[true, true, true, true, true, true, true, true, true, true, true, true, true]) (by kernel_rfl) (by kernel_rfl) (wpOp_valueL (i := 12) (d := some 13) (w' := wz) (v := .bool true) rfl rfl (by kernel_rfl) (by go_simp) ⟨fun h => absurd h (by decide), ?_⟩)
                      go_frame
                      refine F_done (by kernel_rfl) ?_ _
                      have HF2 := Lib.hid (below_trans HF1.out HF1.out.size hF)
                      have K10 := Lib.hid (K10a.out.below hF K10a.out.lt)
                      have K12 := Lib.hid kx
                      clear hF kx hBp
                      have c2 : (h2 == id) = false := by simp; exact Hq2.out
                      have c3 : (((b.c : Nat) : Int) + ((y.c : Nat) : Int) != (xa : Int)) = false := by have := Hq4.out; simp; omega
                      have c4 : decide ((y.c : Int) < 1) = false := by have := Hq5.out; simp; omega
                      have hbl := dist_low HD.out (by have := HE60.out; omega) Hbb.out
                      have hyl := dist_low HD.out (by have := HE60.out; omega) Hyy.out
                      have hbl2 : (b.c : Int) ≤ 100000000 := by omega
                      have hyl2 : (y.c : Int) ≤ 100000000 := by omega
                      have hbl3 : 0 ≤ (b.c : Int) := by omega
                      have hyl3 : 1 ≤ (y.c : Int) := by have := Hq5.out; omega
                      have hsum : (b.c : Int) + (y.c : Int) = (xa : Int) := by have := Hq4.out; omega
                      obtain ⟨k0, k1, -, -⟩ := (Hk9.out.below HF2.out Hk9.out.lt).cells2
                      obtain ⟨⟨z0, z1, z2, z3, z4⟩, -⟩ := blk5 (Hk69.out.below HF2.out Hk69.out.lt)
                      obtain ⟨⟨p0, p1, p2, p3, p4⟩, -⟩ := blk5 (K10.out)
                      obtain ⟨⟨r0, r1, r2, r3, r4⟩, -⟩ := blk5 (K12.out)
                      have Hend := Lib.hid (below_trans Hb9.out Hb9.out.size HF2.out)
                      clear hbl hyl
                      go_wp2
                      go_roundw
                      case measure => have := Hjl.out; simp [intOf]; omega
                      case rel => exact ⟨j + 1, by go_num, Hjl.out, Hend.out⟩
                  · obtain ⟨we, hV⟩ : ∃ v, wd.alloc (.cells #[.int .i64 0, .int .i64 0, .int .i64 0, .int .i64 0, .slice none 0 0] 59) = v := ⟨_, rfl⟩
                    have hbq := below_new wd (.cells #[.int .i64 0, .int .i64 0, .int .i64 0, .int .i64 0, .slice none 0 0] 59)
                    have kx := Blk.new wd 59 #[.int .i64 0, .int .i64 0, .int .i64 0, .int .i64 0, .slice none 0 0]
                    obtain ⟨px, hpx⟩ : ∃ p, wd.heap.size = p := ⟨_, rfl⟩
                    rw [hV] at hbq kx
                    rw [hpx] at kx
                    have hBp : w15.heap.size ≤ px := by have := hF.size; omega
                    have hF := below_trans hF hF.size hbq
                    refine wpOp_valueL (i := 10) (d := some 12) (w' := we) (v := .pointer (some ⟨px, 0, none⟩)) rfl rfl (by kernel_rfl) (by go_simp) ⟨fun _ => hF, ?_⟩
                    go_frame
                    clear hbq hV hpx
                    refine F_one (i := 5) (s' := #[true, true, true, true, true, true, false, false, false, false, true, false, false]) (by kernel_rfl) (by kernel_rfl) (wpOp_enterL (i := 5) (d := some 75) (f := 27) (args := #[.int .i64 id, .slice A E.length cap]) rfl rfl (by kernel_rfl) (by go_simp) ((HT.out id we ((Hw9.out.trans (HF1.out.mono Hw9.out.size)).trans (hF.mono (Hw9.out.trans (HF1.out.mono Hw9.out.size)).size))).mono ?_))
                    rintro r w5 ⟨⟨v5, N5, rfl, hN5, hT5⟩, hb5⟩
                    obtain ⟨A6, c6, hv5⟩ := hN5.row.shape
                    subst hv5
                    have hF := below_trans hF hF.size hb5
                    have hl5 := treeOf_len HD.out hT5
                    have hlw5 := treeOf_low rfl hT5
                    obtain ⟨n5, hn5⟩ : ∃ n, N5.length = n := ⟨_, rfl⟩
                    rw [hn5] at hN5 ⊢
                    obtain ⟨x5, hfx, -, -, hxa5⟩ := find_has (hT5.1 Hm0.out) Hyy.out
                    have hNr := hN5.reads (Below.refl _ _) hlw5
                    have kx := kx.below hb5 kx.lt
                    refine ⟨_, rfl, fun _ => hF, ?_⟩
                    go_frame
                    clear hN5 hT5 hb5
                    refine F_one (i := 6) (s' := #[true, true, true, true, true, true, true, false, false, false, true, false, false]) (by kernel_rfl) (by kernel_rfl) (wpOp_enterL (i := 6) (d := some 76) (f := 30) (args := #[.agg #[.int .i64 1, .int .i64 h2], .slice A6 n5 c6]) rfl rfl (by kernel_rfl) (by go_simp) ((Find_any 1 h2 A6 c6 n5 N5 w5 hNr (by omega) hn5.symm).mono ?_))
                    rintro r w7 ⟨hfo, hb7⟩
                    have hF := below_trans hF hF.size hb7
                    have kx := kx.below hb7 kx.lt
                    rcases hfo with ⟨x, A7, c7, hx, rfl, -⟩ | ⟨hx, -⟩
                    rotate_left
                    · rw [hfx] at hx; cases hx
                    rw [hfx] at hx
                    injection hx with hx
                    subst hx
                    obtain ⟨⟨q1, q2⟩, ⟨q3, q4⟩, qn⟩ := x5
                    have hq3 : q3 = y.c := by have := congrArg Val2.c hxa5; exact this
                    subst hq3
                    obtain ⟨nq, hnq⟩ : ∃ n, qn.length = n := ⟨_, rfl⟩
                    simp only
                    rw [hnq]
                    refine ⟨_, rfl, fun _ => hF, ?_⟩
                    go_frame
                    clear hxa5 hfx hn5 hl5 hlw5 hb7 hnq hNr
                    refine F_take (i := 7) (d := some 69) (by kernel_rfl) (by kernel_rfl) (by decide) (s' := #[true, true, true, true, true, true, true, true, false, false, true, false, false]) (by kernel_rfl) rfl rfl (by kernel_rfl) (by kernel_rfl) (by kernel_rfl) (fun _ _ _ h => h) (Or.inl ⟨by kernel_rfl, fun W hW => by go_simp; try with_reducible rfl⟩) hF ?_
                    go_frame
                    refine F_take (i := 8) (d := some 77) (by kernel_rfl) (by kernel_rfl) (by decide) (s' := #[true, true, true, true, true, true, true, true, true, false, true, false, false]) (by kernel_rfl) rfl rfl (by kernel_rfl) (by kernel_rfl) (by kernel_rfl) (fun _ _ _ h => h) (Or.inl ⟨by kernel_rfl, fun W hW => by go_simp; try with_reducible rfl⟩) hF ?_
                    go_frame
                    refine F_take (i := 9) (d := some 78) (by kernel_rfl) (by kernel_rfl) (by decide) (s' := #[true, true, true, true, true, true, true, true, true, true, true, false, false]) (by kernel_rfl) rfl rfl (by kernel_rfl) (by kernel_rfl) (by kernel_rfl) (fun _ _ _ h => h) (Or.inl ⟨by kernel_rfl, fun W hW => by go_simp; try with_reducible rfl⟩) hF ?_
                    go_frame
                    obtain ⟨wz, hwz⟩ : ∃ v, (((((w7.setCell ⟨px, 0, none⟩ (.int .i64 q1)).setCell ⟨px, 1, none⟩ (.int .i64 q2)).setCell ⟨px, 2, none⟩ (.int .i64 y.c)).setCell ⟨px, 3, none⟩ (.int .i64 q4)).setCell ⟨px, 4, none⟩ (.slice A7 nq c7)) = v := ⟨_, rfl⟩
                    obtain ⟨⟨s0, s1, s2, s3, s4⟩, sf0, sf1, sf2, sf3, sf4⟩ := blk5 kx
                    have kx := Blk.put5 kx (.int .i64 q1) (.int .i64 q2) (.int .i64 y.c) (.int .i64 q4) (.slice A7 nq c7)
                    have hF := below_put5 hF hBp (.int .i64 q1) (.int .i64 q2) (.int .i64 y.c) (.int .i64 q4) (.slice A7 nq c7)
                    rw [hwz] at kx hF
                    refine F_one (i := 11) (s' := #[true, true, true, true, true, true, true, true, true, true, true, true, false]) (by kernel_rfl) (by kernel_rfl) (wpOp_skipL (i := 11) (w' := wz) rfl rfl (by kernel_rfl) (by go_simp) ⟨fun _ => hF, ?_⟩)
                    go_frame
                    clear hwz s0 s1 s2 s3 s4 sf0 sf1 sf2 sf3 sf4
                    refine F_one (i := 12) (s' := #[true, true, true, true, true, true, true, true, true, true, true, true, true]) (by kernel_rfl) (by kernel_rfl) (wpOp_valueL (i := 12) (d := some 13) (w' := wz) (v := .bool true) rfl rfl (by kernel_rfl) (by go_simp) ⟨fun h => absurd h (by decide), ?_⟩)
                    go_frame
                    refine F_done (by kernel_rfl) ?_ _
                    have HF2 := Lib.hid (below_trans HF1.out HF1.out.size hF)
                    have K10 := Lib.hid (K10a.out.below hF K10a.out.lt)
                    have K12 := Lib.hid kx
                    clear hF kx hBp
                    have c2 : (h2 == id) = false := by simp; exact Hq2.out
                    have c3 : (((b.c : Nat) : Int) + ((y.c : Nat) : Int) != (xa : Int)) = false := by have := Hq4.out; simp; omega
                    have c4 : decide ((y.c : Int) < 1) = false := by have := Hq5.out; simp; omega
                    have hbl := dist_low HD.out (by have := HE60.out; omega) Hbb.out
                    have hyl := dist_low HD.out (by have := HE60.out; omega) Hyy.out
                    have hbl2 : (b.c : Int) ≤ 100000000 := by omega
                    have hyl2 : (y.c : Int) ≤ 100000000 := by omega
                    have hbl3 : 0 ≤ (b.c : Int) := by omega
                    have hyl3 : 1 ≤ (y.c : Int) := by have := Hq5.out; omega
                    have hsum : (b.c : Int) + (y.c : Int) = (xa : Int) := by have := Hq4.out; omega
                    obtain ⟨k0, k1, -, -⟩ := (Hk9.out.below HF2.out Hk9.out.lt).cells2
                    obtain ⟨⟨z0, z1, z2, z3, z4⟩, -⟩ := blk5 (Hk69.out.below HF2.out Hk69.out.lt)
                    obtain ⟨⟨p0, p1, p2, p3, p4⟩, -⟩ := blk5 (K10.out)
                    obtain ⟨⟨r0, r1, r2, r3, r4⟩, -⟩ := blk5 (K12.out)
                    have Hend := Lib.hid (below_trans Hb9.out Hb9.out.size HF2.out)
                    clear hbl hyl
                    go_wp2
                    go_roundw
                    case measure => have := Hjl.out; simp [intOf]; omega
                    case rel => exact ⟨j + 1, by go_num, Hjl.out, Hend.out⟩
                · obtain ⟨we, hV⟩ : ∃ v, w5.alloc (.cells #[.int .i64 0, .int .i64 0, .int .i64 0, .int .i64 0, .slice none 0 0] 59) = v := ⟨_, rfl⟩
                  have hbq := below_new w5 (.cells #[.int .i64 0, .int .i64 0, .int .i64 0, .int .i64 0, .slice none 0 0] 59)
                  have kx := Blk.new w5 59 #[.int .i64 0, .int .i64 0, .int .i64 0, .int .i64 0, .slice none 0 0]
                  obtain ⟨px, hpx⟩ : ∃ p, w5.heap.size = p := ⟨_, rfl⟩
                  rw [hV] at hbq kx
                  rw [hpx] at kx
                  have hBp : w9.heap.size ≤ px := by have := hF.size; omega
                  have hF := below_trans hF hF.size hbq
                  have hNr := (hNr.below hbq).more hbq.size
                  refine wpOp_valueL (i := 10) (d := some 10) (w' := we) (v := .pointer (some ⟨px, 0, none⟩)) rfl rfl (by kernel_rfl) (by go_simp) ⟨fun _ => hF, ?_⟩
                  go_frame
                  clear hbq hV hpx
                  refine F_one (i := 6) (s' := #[true, true, true, true, true, true, true, false, false, false, true, false, false]) (by kernel_rfl) (by kernel_rfl) (wpOp_enterL (i := 6) (d := some 66) (f := 30) (args := #[.agg #[.int .i64 vk, .int .i64 vi], .slice A6 n5 c6]) rfl rfl (by kernel_rfl) (by go_simp) ((Find_any vk vi A6 c6 n5 N5 we hNr (by omega) hn5.symm).mono ?_))
                  rintro r w7 ⟨hfo, hb7⟩
                  have hF := below_trans hF hF.size hb7
                  have kx := kx.below hb7 kx.lt
                  rcases hfo with ⟨x, A7, c7, hx, rfl, -⟩ | ⟨hx, -⟩
                  rotate_left
                  · rw [hfx] at hx; cases hx
                  rw [hfx] at hx
                  injection hx with hx
                  subst hx
                  obtain ⟨⟨q1, q2⟩, ⟨q3, q4⟩, qn⟩ := x5
                  have hq3 : q3 = b.c := by have := congrArg Val2.c hxa5; exact this
                  subst hq3
                  obtain ⟨nq, hnq⟩ : ∃ n, qn.length = n := ⟨_, rfl⟩
                  simp only
                  rw [hnq]
                  refine ⟨_, rfl, fun _ => hF, ?_⟩
                  go_frame
                  clear hxa5 hfx hn5 hl5 hlw5 hb7 hnq hNr
                  refine F_take (i := 7) (d := some 59) (by kernel_rfl) (by kernel_rfl) (by decide) (s' := #[true, true, true, true, true, true, true, true, false, false, true, false, false]) (by kernel_rfl) rfl rfl (by kernel_rfl) (by kernel_rfl) (by kernel_rfl) (fun _ _ _ h => h) (Or.inl ⟨by kernel_rfl, fun W hW => by go_simp; try with_reducible rfl⟩) hF ?_
                  go_frame
                  refine F_take (i := 8) (d := some 67) (by kernel_rfl) (by kernel_rfl) (by decide) (s' := #[true, true, true, true, true, true, true, true, true, false, true, false, false]) (by kernel_rfl) rfl rfl (by kernel_rfl) (by kernel_rfl) (by kernel_rfl) (fun _ _ _ h => h) (Or.inl ⟨by kernel_rfl, fun W hW => by go_simp; try with_reducible rfl⟩) hF ?_
                  go_frame
                  refine F_take (i := 9) (d := some 68) (by kernel_rfl) (by kernel_rfl) (by decide) (s' := #[true, true, true, true, true, true, true, true, true, true, true, false, false]) (by kernel_rfl) rfl rfl (by kernel_rfl) (by kernel_rfl) (by kernel_rfl) (fun _ _ _ h => h) (Or.inl ⟨by kernel_rfl, fun W hW => by go_simp; try with_reducible rfl⟩) hF ?_
                  go_frame
                  obtain ⟨wz, hwz⟩ : ∃ v, (((((w7.setCell ⟨px, 0, none⟩ (.int .i64 q1)).setCell ⟨px, 1, none⟩ (.int .i64 q2)).setCell ⟨px, 2, none⟩ (.int .i64 b.c)).setCell ⟨px, 3, none⟩ (.int .i64 q4)).setCell ⟨px, 4, none⟩ (.slice A7 nq c7)) = v := ⟨_, rfl⟩
                  obtain ⟨⟨s0, s1, s2, s3, s4⟩, sf0, sf1, sf2, sf3, sf4⟩ := blk5 kx
                  have kx := Blk.put5 kx (.int .i64 q1) (.int .i64 q2) (.int .i64 b.c) (.int .i64 q4) (.slice A7 nq c7)
                  have hF := below_put5 hF hBp (.int .i64 q1) (.int .i64 q2) (.int .i64 b.c) (.int .i64 q4) (.slice A7 nq c7)
                  rw [hwz] at kx hF
                  refine F_one (i := 11) (s' := #[true, true, true, true, true, true, true, true, true, true, true, true, false]) (by kernel_rfl) (by kernel_rfl) (wpOp_skipL (i := 11) (w' := wz) rfl rfl (by kernel_rfl) (by go_simp) ⟨fun _ => hF, ?_⟩)
                  go_frame
                  clear hwz s0 s1 s2 s3 s4 sf0 sf1 sf2 sf3 sf4
                  refine F_one (i := 12) (s' := #[true, true, true, true, true, true, true, true, true, true, true, true, true]) (by kernel_rfl) (by kernel_rfl) (wpOp_valueL (i := 12) (d := some 11) (w' := wz) (v := .bool true) rfl rfl (by kernel_rfl) (by go_simp) ⟨fun h => absurd h (by decide), ?_⟩)
                  go_frame
                  refine F_done (by kernel_rfl) ?_ _
                  obtain ⟨w15, hw15⟩ : ∃ v, v = wz := ⟨_, rfl⟩
                  subst hw15
                  have HF1 := Lib.hid hF
                  have K10a := Lib.hid kx
                  clear hF kx hBp
                  go_wp2_with fail
                  refine wp_region_F (F := fun W => Below w15.heap.size w15 W) (n := 12) (m := 13) (s := #[false, false, false, false, false, false, false, false, false, false, false, false, false]) (by kernel_rfl) (by kernel_rfl) (by kernel_rfl) ?_
                  intro wd hwd
                  have hF : Below w15.heap.size w15 wd := by rw [hwd.out]; exact (Below.refl _ _).drew
                  clear hwd
                  refine F_take (i := 0) (d := some 70) (by kernel_rfl) (by kernel_rfl) (by decide) (s' := #[true, false, false, false, false, false, false, false, false, false, false, false, false]) (by kernel_rfl) rfl rfl (by kernel_rfl) (by kernel_rfl) (by kernel_rfl) (fun _ _ _ h => h) (Or.inl ⟨by kernel_rfl, fun W hW => by go_simp; try with_reducible rfl⟩) hF ?_
                  go_frame
                  refine F_take (i := 1) (d := some 71) (by kernel_rfl) (by kernel_rfl) (by decide) (s' := #[true, true, false, false, false, false, false, false, false, false, false, false, false]) (by kernel_rfl) rfl rfl (by kernel_rfl) (by kernel_rfl) (by kernel_rfl) (fun _ _ _ h => h) (Or.inl ⟨by kernel_rfl, fun W hW => by obtain ⟨k0, k1, -, -⟩ := (Hk9.out.below (below_trans HF1.out HF1.out.size hW) Hk9.out.lt).cells2; go_simp; try with_reducible rfl⟩) hF ?_
                  go_frame
                  refine F_take (i := 2) (d := some 72) (by kernel_rfl) (by kernel_rfl) (by decide) (s' := #[true, true, true, false, false, false, false, false, false, false, false, false, false]) (by kernel_rfl) rfl rfl (by kernel_rfl) (by kernel_rfl) (by kernel_rfl) (fun _ _ _ h => h) (Or.inl ⟨by kernel_rfl, fun W hW => by go_simp; try with_reducible rfl⟩) hF ?_
                  go_frame
                  refine F_take (i := 3) (d := some 73) (by kernel_rfl) (by kernel_rfl) (by decide) (s' := #[true, true, true, true, false, false, false, false, false, false, false, false, false]) (by kernel_rfl) rfl rfl (by kernel_rfl) (by kernel_rfl) (by kernel_rfl) (fun _ _ _ h => h) (Or.inl ⟨by kernel_rfl, fun W hW => by go_simp; try with_reducible rfl⟩) hF ?_
                  go_frame
                  refine F_take (i := 4) (d := some 74) (by kernel_rfl) (by kernel_rfl) (by decide) (s' := #[true, true, true, true, true, false, false, false, false, false, false, false, false]) (by kernel_rfl) rfl rfl (by kernel_rfl) (by kernel_rfl) (by kernel_rfl) (fun _ _ _ h => h) (Or.inl ⟨by kernel_rfl, fun W hW => by go_simp; try with_reducible rfl⟩) hF ?_
                  go_frame
                  refine F_two (i := 5) (j := 10) (si := #[true, true, true, true, true, true, false, false, false, false, false, false, false]) (sj := #[true, true, true, true, true, false, false, false, false, false, true, false, false]) (by kernel_rfl) (by kernel_rfl) (by kernel_rfl) ?_ ?_
                  · refine wpOp_enterL (i := 5) (d := some 75) (f := 27) (args := #[.int .i64 id, .slice A E.length cap]) rfl rfl (by kernel_rfl) (by go_simp) ((HT.out id wd ((Hw9.out.trans (HF1.out.mono Hw9.out.size)).trans (hF.mono (Hw9.out.trans (HF1.out.mono Hw9.out.size)).size))).mono ?_)
                    rintro r w5 ⟨⟨v5, N5, rfl, hN5, hT5⟩, hb5⟩
                    obtain ⟨A6, c6, hv5⟩ := hN5.row.shape
                    subst hv5
                    have hF := below_trans hF hF.size hb5
                    have hl5 := treeOf_len HD.out hT5
                    have hlw5 := treeOf_low rfl hT5
                    obtain ⟨n5, hn5⟩ : ∃ n, N5.length = n := ⟨_, rfl⟩
                    rw [hn5] at hN5 ⊢
                    obtain ⟨x5, hfx, -, -, hxa5⟩ := find_has (hT5.1 Hm0.out) Hyy.out
                    have hNr := hN5.reads (Below.refl _ _) hlw5
                    refine ⟨_, rfl, fun _ => hF, ?_⟩
                    go_frame
                    clear hN5 hT5 hb5
                    refine F_two (i := 6) (j := 10) (si := #[true, true, true, true, true, true, true, false, false, false, false, false, false]) (sj := #[true, true, true, true, true, true, false, false, false, false, true, false, false]) (by kernel_rfl) (by kernel_rfl) (by kernel_rfl) ?_ ?_
                    · refine wpOp_enterL (i := 6) (d := some 76) (f := 30) (args := #[.agg #[.int .i64 1, .int .i64 h2], .slice A6 n5 c6]) rfl rfl (by kernel_rfl) (by go_simp) ((Find_any 1 h2 A6 c6 n5 N5 w5 hNr (by omega) hn5.symm).mono ?_)
                      rintro r w7 ⟨hfo, hb7⟩
                      have hF := below_trans hF hF.size hb7
                      rcases hfo with ⟨x, A7, c7, hx, rfl, -⟩ | ⟨hx, -⟩
                      rotate_left
                      · rw [hfx] at hx; cases hx
                      rw [hfx] at hx
                      injection hx with hx
                      subst hx
                      obtain ⟨⟨q1, q2⟩, ⟨q3, q4⟩, qn⟩ := x5
                      have hq3 : q3 = y.c := by have := congrArg Val2.c hxa5; exact this
                      subst hq3
                      obtain ⟨nq, hnq⟩ : ∃ n, qn.length = n := ⟨_, rfl⟩
                      simp only
                      rw [hnq]
                      refine ⟨_, rfl, fun _ => hF, ?_⟩
                      go_frame
                      clear hxa5 hfx hn5 hl5 hlw5 hb7 hnq hNr
                      refine F_take (i := 7) (d := some 69) (by kernel_rfl) (by kernel_rfl) (by decide) (s' := #[true, true, true, true, true, true, true, true, false, false, false, false, false]) (by kernel_rfl) rfl rfl (by kernel_rfl) (by kernel_rfl) (by kernel_rfl) (fun _ _ _ h => h) (Or.inl ⟨by kernel_rfl, fun W hW => by go_simp; try with_reducible rfl⟩) hF ?_
                      go_frame
                      refine F_take (i := 8) (d := some 77) (by kernel_rfl) (by kernel_rfl) (by decide) (s' := #[true, true, true, true, true, true, true, true, true, false, false, false, false]) (by kernel_rfl) rfl rfl (by kernel_rfl) (by kernel_rfl) (by kernel_rfl) (fun _ _ _ h => h) (Or.inl ⟨by kernel_rfl, fun W hW => by go_simp; try with_reducible rfl⟩) hF ?_
                      go_frame
                      refine F_take (i := 9) (d := some 78) (by kernel_rfl) (by kernel_rfl) (by decide) (s' := #[true, true, true, true, true, true, true, true, true, true, false, false, false]) (by kernel_rfl) rfl rfl (by kernel_rfl) (by kernel_rfl) (by kernel_rfl) (fun _ _ _ h => h) (Or.inl ⟨by kernel_rfl, fun W hW => by go_simp; try with_reducible rfl⟩) hF ?_
                      go_frame
                      obtain ⟨we, hV⟩ : ∃ v, w7.alloc (.cells #[.int .i64 0, .int .i64 0, .int .i64 0, .int .i64 0, .slice none 0 0] 59) = v := ⟨_, rfl⟩
                      have hbq := below_new w7 (.cells #[.int .i64 0, .int .i64 0, .int .i64 0, .int .i64 0, .slice none 0 0] 59)
                      have kx := Blk.new w7 59 #[.int .i64 0, .int .i64 0, .int .i64 0, .int .i64 0, .slice none 0 0]
                      obtain ⟨px, hpx⟩ : ∃ p, w7.heap.size = p := ⟨_, rfl⟩
                      rw [hV] at hbq kx
                      rw [hpx] at kx
                      have hBp : w15.heap.size ≤ px := by have := hF.size; omega
                      have hF := below_trans hF hF.size hbq
                      refine F_one (i := 10) (s' := #[true, true, true, true, true, true, true, true, true, true, true, false, false]) (by kernel_rfl) (by kernel_rfl) (wpOp_valueL (i := 10) (d := some 12) (w' := we) (v := .pointer (some ⟨px, 0, none⟩)) rfl rfl (by kernel_rfl) (by go_simp) ⟨fun _ => hF, ?_⟩)
                      go_frame
                      clear hbq hV hpx
                      obtain ⟨wz, hwz⟩ : ∃ v, (((((we.setCell ⟨px, 0, none⟩ (.int .i64 q1)).setCell ⟨px, 1, none⟩ (.int .i64 q2)).setCell ⟨px, 2, none⟩ (.int .i64 y.c)).setCell ⟨px, 3, none⟩ (.int .i64 q4)).setCell ⟨px, 4, none⟩ (.slice A7 nq c7)) = v := ⟨_, rfl⟩
                      obtain ⟨⟨s0, s1, s2, s3, s4⟩, sf0, sf1, sf2, sf3, sf4⟩ := blk5 kx
                      have kx := Blk.put5 kx (.int .i64 q1) (.int .i64 q2) (.int .i64 y.c) (.int .i64 q4) (.slice A7 nq c7)
                      have hF := below_put5 hF hBp (.int .i64 q1) (.int .i64 q2) (.int .i64 y.c) (.int .i64 q4) (.slice A7 nq c7)
                      rw [hwz] at kx hF
                      refine F_one (i := 11) (s' := #[true, true, true, true, true, true, true, true, true, true, true, true, false]) (by kernel_rfl) (by kernel_rfl) (wpOp_skipL (i := 11) (w' := wz) rfl rfl (by kernel_rfl) (by go_simp) ⟨fun _ => hF, ?_⟩)
                      go_frame
                      clear hwz s0 s1 s2 s3 s4 sf0 sf1 sf2 sf3 sf4
                      refine F_one (i := 12) (s' := #[true, true, true, true, true, true, true, true, true, true, true, true, true]) (by kernel_rfl) (by kernel_rfl) (wpOp_valueL (i := 12) (d := some 13) (w' := wz) (v := .bool true) rfl rfl (by kernel_rfl) (by go_simp) ⟨fun h => absurd h (by decide), ?_⟩)
                      go_frame
                      refine F_done (by kernel_rfl) ?_ _
                      have HF2 := Lib.hid (below_trans HF1.out HF1.out.size hF)
                      have K10 := Lib.hid (K10a.out.below hF K10a.out.lt)
                      have K12 := Lib.hid kx
                      clear hF kx hBp
                      have c2 : (h2 == id) = false := by simp; exact Hq2.out
                      have c3 : (((b.c : Nat) : Int) + ((y.c : Nat) : Int) != (xa : Int)) = false := by have := Hq4.out; simp; omega
                      have c4 : decide ((y.c : Int) < 1) = false := by have := Hq5.out; simp; omega
                      have hbl := dist_low HD.out (by have := HE60.out; omega) Hbb.out
                      have hyl := dist_low HD.out (by have := HE60.out; omega) Hyy.out
                      have hbl2 : (b.c : Int) ≤ 100000000 := by omega
                      have hyl2 : (y.c : Int) ≤ 100000000 := by omega
                      have hbl3 : 0 ≤ (b.c : Int) := by omega
                      have hyl3 : 1 ≤ (y.c : Int) := by have := Hq5.out; omega
                      have hsum : (b.c : Int) + (y.c : Int) = (xa : Int) := by have := Hq4.out; omega
                      obtain ⟨k0, k1, -, -⟩ := (Hk9.out.below HF2.out Hk9.out.lt).cells2
                      obtain ⟨⟨z0, z1, z2, z3, z4⟩, -⟩ := blk5 (Hk69.out.below HF2.out Hk69.out.lt)
                      obtain ⟨⟨p0, p1, p2, p3, p4⟩, -⟩ := blk5 (K10.out)
                      obtain ⟨⟨r0, r1, r2, r3, r4⟩, -⟩ := blk5 (K12.out)
                      have Hend := Lib.hid (below_trans Hb9.out Hb9.out.size HF2.out)
                      clear hbl hyl
                      go_wp2
                      go_roundw
                      case measure => have := Hjl.out; simp [intOf]; omega
                      case rel => exact ⟨j + 1, by go_num, Hjl.out, Hend.out⟩
                    · obtain ⟨we, hV⟩ : ∃ v, w5.alloc (.cells #[.int .i64 0, .int .i64 0, .int .i64 0, .int .i64 0, .slice none 0 0] 59) = v := ⟨_, rfl⟩
                      have hbq := below_new w5 (.cells #[.int .i64 0, .int .i64 0, .int .i64 0, .int .i64 0, .slice none 0 0] 59)
                      have kx := Blk.new w5 59 #[.int .i64 0, .int .i64 0, .int .i64 0, .int .i64 0, .slice none 0 0]
                      obtain ⟨px, hpx⟩ : ∃ p, w5.heap.size = p := ⟨_, rfl⟩
                      rw [hV] at hbq kx
                      rw [hpx] at kx
                      have hBp : w15.heap.size ≤ px := by have := hF.size; omega
                      have hF := below_trans hF hF.size hbq
                      have hNr := (hNr.below hbq).more hbq.size
                      refine wpOp_valueL (i := 10) (d := some 12) (w' := we) (v := .pointer (some ⟨px, 0, none⟩)) rfl rfl (by kernel_rfl) (by go_simp) ⟨fun _ => hF, ?_⟩
                      go_frame
                      clear hbq hV hpx
                      refine F_one (i := 6) (s' := #[true, true, true, true, true, true, true, false, false, false, true, false, false]) (by kernel_rfl) (by kernel_rfl) (wpOp_enterL (i := 6) (d := some 76) (f := 30) (args := #[.agg #[.int .i64 1, .int .i64 h2], .slice A6 n5 c6]) rfl rfl (by kernel_rfl) (by go_simp) ((Find_any 1 h2 A6 c6 n5 N5 we hNr (by omega) hn5.symm).mono ?_))
                      rintro r w7 ⟨hfo, hb7⟩
                      have hF := below_trans hF hF.size hb7
                      have kx := kx.below hb7 kx.lt
                      rcases hfo with ⟨x, A7, c7, hx, rfl, -⟩ | ⟨hx, -⟩
                      rotate_left
                      · rw [hfx] at hx; cases hx
                      rw [hfx] at hx
                      injection hx with hx
                      subst hx
                      obtain ⟨⟨q1, q2⟩, ⟨q3, q4⟩, qn⟩ := x5
                      have hq3 : q3 = y.c := by have := congrArg Val2.c hxa5; exact this
                      subst hq3
                      obtain ⟨nq, hnq⟩ : ∃ n, qn.length = n := ⟨_, rfl⟩
                      simp only
                      rw [hnq]
                      refine ⟨_, rfl, fun _ => hF, ?_⟩
                      go_frame
                      clear hxa5 hfx hn5 hl5 hlw5 hb7 hnq hNr
                      refine F_take (i := 7) (d := some 69) (by kernel_rfl) (by kernel_rfl) (by decide) (s' := #[true, true, true, true, true, true, true, true, false, false, true, false, false]) (by kernel_rfl) rfl rfl (by kernel_rfl) (by kernel_rfl) (by kernel_rfl) (fun _ _ _ h => h) (Or.inl ⟨by kernel_rfl, fun W hW => by go_simp; try with_reducible rfl⟩) hF ?_
                      go_frame
                      refine F_take (i := 8) (d := some 77) (by kernel_rfl) (by kernel_rfl) (by decide) (s' := #[true, true, true, true, true, true, true, true, true, false, true, false, false]) (by kernel_rfl) rfl rfl (by kernel_rfl) (by kernel_rfl) (by kernel_rfl) (fun _ _ _ h => h) (Or.inl ⟨by kernel_rfl, fun W hW => by go_simp; try with_reducible rfl⟩) hF ?_
                      go_frame
                      refine F_take (i := 9) (d := some 78) (by kernel_rfl) (by kernel_rfl) (by decide) (s' := #[true, true, true, true, true, true, true, true, true, true, true, false, false]) (by kernel_rfl) rfl rfl (by kernel_rfl) (by kernel_rfl) (by kernel_rfl) (fun _ _ _ h => h) (Or.inl ⟨by kernel_rfl, fun W hW => by go_simp; try with_reducible rfl⟩) hF ?_
                      go_frame
                      obtain ⟨wz, hwz⟩ : ∃ v, (((((w7.setCell ⟨px, 0, none⟩ (.int .i64 q1)).setCell ⟨px, 1, none⟩ (.int .i64 q2)).setCell ⟨px, 2, none⟩ (.int .i64 y.c)).setCell ⟨px, 3, none⟩ (.int .i64 q4)).setCell ⟨px, 4, none⟩ (.slice A7 nq c7)) = v := ⟨_, rfl⟩
                      obtain ⟨⟨s0, s1, s2, s3, s4⟩, sf0, sf1, sf2, sf3, sf4⟩ := blk5 kx
                      have kx := Blk.put5 kx (.int .i64 q1) (.int .i64 q2) (.int .i64 y.c) (.int .i64 q4) (.slice A7 nq c7)
                      have hF := below_put5 hF hBp (.int .i64 q1) (.int .i64 q2) (.int .i64 y.c) (.int .i64 q4) (.slice A7 nq c7)
                      rw [hwz] at kx hF
                      refine F_one (i := 11) (s' := #[true, true, true, true, true, true, true, true, true, true, true, true, false]) (by kernel_rfl) (by kernel_rfl) (wpOp_skipL (i := 11) (w' := wz) rfl rfl (by kernel_rfl) (by go_simp) ⟨fun _ => hF, ?_⟩)
                      go_frame
                      clear hwz s0 s1 s2 s3 s4 sf0 sf1 sf2 sf3 sf4
                      refine F_one (i := 12) (s' := #[true, true, true, true, true, true, true, true, true, true, true, true, true]) (by kernel_rfl) (by kernel_rfl) (wpOp_valueL (i := 12) (d := some 13) (w' := wz) (v := .bool true) rfl rfl (by kernel_rfl) (by go_simp) ⟨fun h => absurd h (by decide), ?_⟩)
                      go_frame
                      refine F_done (by kernel_rfl) ?_ _
                      have HF2 := Lib.hid (below_trans HF1.out HF1.out.size hF)
                      have K10 := Lib.hid (K10a.out.below hF K10a.out.lt)
                      have K12 := Lib.hid kx
                      clear hF kx hBp
                      have c2 : (h2 == id) = false := by simp; exact Hq2.out
                      have c3 : (((b.c : Nat) : Int) + ((y.c : Nat) : Int) != (xa : Int)) = false := by have := Hq4.out; simp; omega
                      have c4 : decide ((y.c : Int) < 1) = false := by have := Hq5.out; simp; omega
                      have hbl := dist_low HD.out (by have := HE60.out; omega) Hbb.out
                      have hyl := dist_low HD.out (by have := HE60.out; omega) Hyy.out
                      have hbl2 : (b.c : Int) ≤ 100000000 := by omega
                      have hyl2 : (y.c : Int) ≤ 100000000 := by omega
                      have hbl3 : 0 ≤ (b.c : Int) := by omega
                      have hyl3 : 1 ≤ (y.c : Int) := by have := Hq5.out; omega
                      have hsum : (b.c : Int) + (y.c : Int) = (xa : Int) := by have := Hq4.out; omega
                      obtain ⟨k0, k1, -, -⟩ := (Hk9.out.below HF2.out Hk9.out.lt).cells2
                      obtain ⟨⟨z0, z1, z2, z3, z4⟩, -⟩ := blk5 (Hk69.out.below HF2.out Hk69.out.lt)
                      obtain ⟨⟨p0, p1, p2, p3, p4⟩, -⟩ := blk5 (K10.out)
                      obtain ⟨⟨r0, r1, r2, r3, r4⟩, -⟩ := blk5 (K12.out)
                      have Hend := Lib.hid (below_trans Hb9.out Hb9.out.size HF2.out)
                      clear hbl hyl
                      go_wp2
                      go_roundw
                      case measure => have := Hjl.out; simp [intOf]; omega
                      case rel => exact ⟨j + 1, by go_num, Hjl.out, Hend.out⟩
                  · obtain ⟨we, hV⟩ : ∃ v, wd.alloc (.cells #[.int .i64 0, .int .i64 0, .int .i64 0, .int .i64 0, .slice none 0 0] 59) = v := ⟨_, rfl⟩
                    have hbq := below_new wd (.cells #[.int .i64 0, .int .i64 0, .int .i64 0, .int .i64 0, .slice none 0 0] 59)
                    have kx := Blk.new wd 59 #[.int .i64 0, .int .i64 0, .int .i64 0, .int .i64 0, .slice none 0 0]
                    obtain ⟨px, hpx⟩ : ∃ p, wd.heap.size = p := ⟨_, rfl⟩
                    rw [hV] at hbq kx
                    rw [hpx] at kx
                    have hBp : w15.heap.size ≤ px := by have := hF.size; omega
                    have hF := below_trans hF hF.size hbq
                    refine wpOp_valueL (i := 10) (d := some 12) (w' := we) (v := .pointer (some ⟨px, 0, none⟩)) rfl rfl (by kernel_rfl) (by go_simp) ⟨fun _ => hF, ?_⟩
                    go_frame
                    clear hbq hV hpx
                    refine F_one (i := 5) (s' := #[true, true, true, true, true, true, false, false, false, false, true, false, false]) (by kernel_rfl) (by kernel_rfl) (wpOp_enterL (i := 5) (d := some 75) (f := 27) (args := #[.int .i64 id, .slice A E.length cap]) rfl rfl (by kernel_rfl) (by go_simp) ((HT.out id we ((Hw9.out.trans (HF1.out.mono Hw9.out.size)).trans (hF.mono (Hw9.out.trans (HF1.out.mono Hw9.out.size)).size))).mono ?_))
                    rintro r w5 ⟨⟨v5, N5, rfl, hN5, hT5⟩, hb5⟩
                    obtain ⟨A6, c6, hv5⟩ := hN5.row.shape
                    subst hv5
                    have hF := below_trans hF hF.size hb5
                    have hl5 := treeOf_len HD.out hT5
                    have hlw5 := treeOf_low rfl hT5
                    obtain ⟨n5, hn5⟩ : ∃ n, N5.length = n := ⟨_, rfl⟩
                    rw [hn5] at hN5 ⊢
                    obtain ⟨x5, hfx, -, -, hxa5⟩ := find_has (hT5.1 Hm0.out) Hyy.out
                    have hNr := hN5.reads (Below.refl _ _) hlw5
                    have kx := kx.below hb5 kx.lt
                    refine ⟨_, rfl, fun _ => hF, ?_⟩
                    go_frame
                    clear hN5 hT5 hb5
                    refine F_one (i := 6) (s' := #[true, true, true, true, true, true, true, false, false, false, true, false, false]) (by kernel_rfl) (by kernel_rfl) (wpOp_enterL (i := 6) (d := some 76) (f := 30) (args := #[.agg #[.int .i64 1, .int .i64 h2], .slice A6 n5 c6]) rfl rfl (by kernel_rfl) (by go_simp) ((Find_any 1 h2 A6 c6 n5 N5 w5 hNr (by omega) hn5.symm).mono ?_))
                    rintro r w7 ⟨hfo, hb7⟩
                    have hF := below_trans hF hF.size hb7
                    have kx := kx.below hb7 kx.lt
                    rcases hfo with ⟨x, A7, c7, hx, rfl, -⟩ | ⟨hx, -⟩
                    rotate_left
                    · rw [hfx] at hx; cases hx
                    rw [hfx] at hx
                    injection hx with hx
                    subst hx
                    obtain ⟨⟨q1, q2⟩, ⟨q3, q4⟩, qn⟩ := x5
                    have hq3 : q3 = y.c := by have := congrArg Val2.c hxa5; exact this
                    subst hq3
                    obtain ⟨nq, hnq⟩ : ∃ n, qn.length = n := ⟨_, rfl⟩
                    simp only
                    rw [hnq]
                    refine ⟨_, rfl, fun _ => hF, ?_⟩
                    go_frame
                    clear hxa5 hfx hn5 hl5 hlw5 hb7 hnq hNr
                    refine F_take (i := 7) (d := some 69) (by kernel_rfl) (by kernel_rfl) (by decide) (s' := #[true, true, true, true, true, true, true, true, false, false, true, false, false]) (by kernel_rfl) rfl rfl (by kernel_rfl) (by kernel_rfl) (by kernel_rfl) (fun _ _ _ h => h) (Or.inl ⟨by kernel_rfl, fun W hW => by go_simp; try with_reducible rfl⟩) hF ?_
                    go_frame
                    refine F_take (i := 8) (d := some 77) (by kernel_rfl) (by kernel_rfl) (by decide) (s' := #[true, true, true, true, true, true, true, true, true, false, true, false, false]) (by kernel_rfl) rfl rfl (by kernel_rfl) (by kernel_rfl) (by kernel_rfl) (fun _ _ _ h => h) (Or.inl ⟨by kernel_rfl, fun W hW => by go_simp; try with_reducible rfl⟩) hF ?_
                    go_frame
                    refine F_take (i := 9) (d := some 78) (by kernel_rfl) (by kernel_rfl) (by decide) (s' := #[true, true, true, true, true, true, true, true, true, true, true, false, false]) (by kernel_rfl) rfl rfl (by kernel_rfl) (by kernel_rfl) (by kernel_rfl) (fun _ _ _ h => h) (Or.inl ⟨by kernel_rfl, fun W hW => by go_simp; try with_reducible rfl⟩) hF ?_
                    go_frame
                    obtain ⟨wz, hwz⟩ : ∃ v, (((((w7.setCell ⟨px, 0, none⟩ (.int .i64 q1)).setCell ⟨px, 1, none⟩ (.int .i64 q2)).setCell ⟨px, 2, none⟩ (.int .i64 y.c)).setCell ⟨px, 3, none⟩ (.int .i64 q4)).setCell ⟨px, 4, none⟩ (.slice A7 nq c7)) = v := ⟨_, rfl⟩
                    obtain ⟨⟨s0, s1, s2, s3, s4⟩, sf0, sf1, sf2, sf3, sf4⟩ := blk5 kx
                    have kx := Blk.put5 kx (.int .i64 q1) (.int .i64 q2) (.int .i64 y.c) (.int .i64 q4) (.slice A7 nq c7)
                    have hF := below_put5 hF hBp (.int .i64 q1) (.int .i64 q2) (.int .i64 y.c) (.int .i64 q4) (.slice A7 nq c7)
                    rw [hwz] at kx hF
                    refine F_one (i := 11) (s' := #[true, true, true, true, true, true, true, true, true, true, true, true, false]) (by kernel_rfl) (by kernel_rfl) (wpOp_skipL (i := 11) (w' := wz) rfl rfl (by kernel_rfl) (by go_simp) ⟨fun _ => hF, ?_⟩)
                    go_frame
                    clear hwz s0 s1 s2 s3 s4 sf0 sf1 sf2 sf3 sf4
                    refine F_one (i := 12) (s' := #[true, true, true, true, true, true, true, true, true, true, true, true, true]) (by kernel_rfl) (by kernel_rfl) (wpOp_valueL (i := 12) (d := some 13) (w' := wz) (v := .bool true) rfl rfl (by kernel_rfl) (by go_simp) ⟨fun h => absurd h (by decide), ?_⟩)
                    go_frame
                    refine F_done (by kernel_rfl) ?_ _
                    have HF2 := Lib.hid (below_trans HF1.out HF1.out.size hF)
                    have K10 := Lib.hid (K10a.out.below hF K10a.out.lt)
                    have K12 := Lib.hid kx
                    clear hF kx hBp
                    have c2 : (h2 == id) = false := by simp; exact Hq2.out
                    have c3 : (((b.c : Nat) : Int) + ((y.c : Nat) : Int) != (xa : Int)) = false := by have := Hq4.out; simp; omega
                    have c4 : decide ((y.c : Int) < 1) = false := by have := Hq5.out; simp; omega
                    have hbl := dist_low HD.out (by have := HE60.out; omega) Hbb.out
                    have hyl := dist_low HD.out (by have := HE60.out; omega) Hyy.out
                    have hbl2 : (b.c : Int) ≤ 100000000 := by omega
                    have hyl2 : (y.c : Int) ≤ 100000000 := by omega
                    have hbl3 : 0 ≤ (b.c : Int) := by omega
                    have hyl3 : 1 ≤ (y.c : Int) := by have := Hq5.out; omega
                    have hsum : (b.c : Int) + (y.c : Int) = (xa : Int) := by have := Hq4.out; omega
                    obtain ⟨k0, k1, -, -⟩ := (Hk9.out.below HF2.out Hk9.out.lt).cells2
                    obtain ⟨⟨z0, z1, z2, z3, z4⟩, -⟩ := blk5 (Hk69.out.below HF2.out Hk69.out.lt)
                    obtain ⟨⟨p0, p1, p2, p3, p4⟩, -⟩ := blk5 (K10.out)
                    obtain ⟨⟨r0, r1, r2, r3, r4⟩, -⟩ := blk5 (K12.out)
                    have Hend := Lib.hid (below_trans Hb9.out Hb9.out.size HF2.out)
                    clear hbl hyl
                    go_wp2
                    go_roundw
                    case measure => have := Hjl.out; simp [intOf]; omega
                    case rel => exact ⟨j + 1, by go_num, Hjl.out, Hend.out⟩
              · obtain ⟨we, hV⟩ : ∃ v, wd.alloc (.cells #[.int .i64 0, .int .i64 0, .int .i64 0, .int .i64 0, .slice none 0 0] 59) = v := ⟨_, rfl⟩
                have hbq := below_new wd (.cells #[.int .i64 0, .int .i64 0, .int .i64 0, .int .i64 0, .slice none 0 0] 59)
                have kx := Blk.new wd 59 #[.int .i64 0, .int .i64 0, .int .i64 0, .int .i64 0, .slice none 0 0]
                obtain ⟨px, hpx⟩ : ∃ p, wd.heap.size = p := ⟨_, rfl⟩
                rw [hV] at hbq kx
                rw [hpx] at kx
                have hBp : w9.heap.size ≤ px := by have := hF.size; omega
                have hF := below_trans hF hF.size hbq
                refine wpOp_valueL (i := 10) (d := some 10) (w' := we) (v := .pointer (some ⟨px, 0, none⟩)) rfl rfl (by kernel_rfl) (by go_simp) ⟨fun _ => hF, ?_⟩
                go_frame
                clear hbq hV hpx
                refine F_one (i := 5) (s' := #[true, true, true, true, true, true, false, false, false, false, true, false, false]) (by kernel_rfl) (by kernel_rfl) (wpOp_enterL (i := 5) (d := some 65) (f := 27) (args := #[.int .i64 h2, .slice A E.length cap]) rfl rfl (by kernel_rfl) (by go_simp) ((HT.out h2 we (Hw9.out.trans (hF.mono Hw9.out.size))).mono ?_))
                rintro r w5 ⟨⟨v5, N5, rfl, hN5, hT5⟩, hb5⟩
                obtain ⟨A6, c6, hv5⟩ := hN5.row.shape
                subst hv5
                have hF := below_trans hF hF.size hb5
                have hl5 := treeOf_len HD.out hT5
                have hlw5 := treeOf_low rfl hT5
                obtain ⟨n5, hn5⟩ : ∃ n, N5.length = n := ⟨_, rfl⟩
                rw [hn5] at hN5 ⊢
                obtain ⟨x5, hfx, -, -, hxa5⟩ := find_has (hT5.1 Hm5.out) Hbb.out
                have hNr := hN5.reads (Below.refl _ _) hlw5
                have kx := kx.below hb5 kx.lt
                refine ⟨_, rfl, fun _ => hF, ?_⟩
                go_frame
                clear hN5 hT5 hb5
                refine F_one (i := 6) (s' := #[true, true, true, true, true, true, true, false, false, false, true, false, false]) (by kernel_rfl) (by kernel_rfl) (wpOp_enterL (i := 6) (d := some 66) (f := 30) (args := #[.agg #[.int .i64 vk, .int .i64 vi], .slice A6 n5 c6]) rfl rfl (by kernel_rfl) (by go_simp) ((Find_any vk vi A6 c6 n5 N5 w5 hNr (by omega) hn5.symm).mono ?_))
                rintro r w7 ⟨hfo, hb7⟩
                have hF := below_trans hF hF.size hb7
                have kx := kx.below hb7 kx.lt
                rcases hfo with ⟨x, A7, c7, hx, rfl, -⟩ | ⟨hx, -⟩
                rotate_left
                · rw [hfx] at hx; cases hx
                rw [hfx] at hx
                injection hx with hx
                subst hx
                obtain ⟨⟨q1, q2⟩, ⟨q3, q4⟩, qn⟩ := x5
                have hq3 : q3 = b.c := by have := congrArg Val2.c hxa5; exact this
                subst hq3
                obtain ⟨nq, hnq⟩ : ∃ n, qn.length = n := ⟨_, rfl⟩
                simp only
                rw [hnq]
                refine ⟨_, rfl, fun _ => hF, ?_⟩
                go_frame
                clear hxa5 hfx hn5 hl5 hlw5 hb7 hnq hNr
                refine F_take (i := 7) (d := some 59) (by kernel_rfl) (by kernel_rfl) (by decide) (s' := #[true, true, true, true, true, true, true, true, false, false, true, false, false]) (by kernel_rfl) rfl rfl (by kernel_rfl) (by kernel_rfl) (by kernel_rfl) (fun _ _ _ h => h) (Or.inl ⟨by kernel_rfl, fun W hW => by go_simp; try with_reducible rfl⟩) hF ?_
                go_frame
                refine F_take (i := 8) (d := some 67) (by kernel_rfl) (by kernel_rfl) (by decide) (s' := #[true, true, true, true, true, true, true, true, true, false, true, false, false]) (by kernel_rfl) rfl rfl (by kernel_rfl) (by kernel_rfl) (by kernel_rfl) (fun _ _ _ h => h) (Or.inl ⟨by kernel_rfl, fun W hW => by go_simp; try with_reducible rfl⟩) hF ?_
                go_frame
                refine F_take (i := 9) (d := some 68) (by kernel_rfl) (by kernel_rfl) (by decide) (s' := #[true, true, true, true, true, true, true, true, true, true, true, false, false]) (by kernel_rfl) rfl rfl (by kernel_rfl) (by kernel_rfl) (by kernel_rfl) (fun _ _ _ h => h) (Or.inl ⟨by kernel_rfl, fun W hW => by go_simp; try with_reducible rfl⟩) hF ?_
                go_frame
                obtain ⟨wz, hwz⟩ : ∃ v, (((((w7.setCell ⟨px, 0, none⟩ (.int .i64 q1)).setCell ⟨px, 1, none⟩ (.int .i64 q2)).setCell ⟨px, 2, none⟩ (.int .i64 b.c)).setCell ⟨px, 3, none⟩ (.int .i64 q4)).setCell ⟨px, 4, none⟩ (.slice A7 nq c7)) = v := ⟨_, rfl⟩
                obtain ⟨⟨s0, s1, s2, s3, s4⟩, sf0, sf1, sf2, sf3, sf4⟩ := blk5 kx
                have kx := Blk.put5 kx (.int .i64 q1) (.int .i64 q2) (.int .i64 b.c) (.int .i64 q4) (.slice A7 nq c7)
                have hF := below_put5 hF hBp (.int .i64 q1) (.int .i64 q2) (.int .i64 b.c) (.int .i64 q4) (.slice A7 nq c7)
                rw [hwz] at kx hF
                refine F_one (i := 11) (s' := #[true, true, true, true, true, true, true, true, true, true, true, true, false]) (by kernel_rfl) (by kernel_rfl) (wpOp_skipL (i := 11) (w' := wz) rfl rfl (by kernel_rfl) (by go_simp) ⟨fun _ => hF, ?_⟩)
                go_frame
                clear hwz s0 s1 s2 s3 s4 sf0 sf1 sf2 sf3 sf4
                refine F_one (i := 12) (s' := #[true, true, true, true, true, true, true, true, true, true, true, true, true]) (by kernel_rfl) (by kernel_rfl) (wpOp_valueL (i := 12) (d := some 11) (w' := wz) (v := .bool true) rfl rfl (by kernel_rfl) (by go_simp) ⟨fun h => absurd h (by decide), ?_⟩)
                go_frame
                refine F_done (by kernel_rfl) ?_ _
                obtain ⟨w15, hw15⟩ : ∃ v, v = wz := ⟨_, rfl⟩
                subst hw15
                have HF1 := Lib.hid hF
                have K10a := Lib.hid kx
                clear hF kx hBp
                go_wp2_with fail
                refine wp_region_F (F := fun W => Below w15.heap.size w15 W) (n := 12) (m := 13) (s := #[false, false, false, false, false, false, false, false, false, false, false, false, false]) (by kernel_rfl) (by kernel_rfl) (by kernel_rfl) ?_
                intro wd hwd
                have hF : Below w15.heap.size w15 wd := by rw [hwd.out]; exact (Below.refl _ _).drew
                clear hwd
                refine F_take (i := 0) (d := some 70) (by kernel_rfl) (by kernel_rfl) (by decide) (s' := #[true, false, false, false, false, false, false, false, false, false, false, false, false]) (by kernel_rfl) rfl rfl (by kernel_rfl) (by kernel_rfl) (by kernel_rfl) (fun _ _ _ h => h) (Or.inl ⟨by kernel_rfl, fun W hW => by go_simp; try with_reducible rfl⟩) hF ?_
                go_frame
                refine F_take (i := 1) (d := some 71) (by kernel_rfl) (by kernel_rfl) (by decide) (s' := #[true, true, false, false, false, false, false, false, false, false, false, false, false]) (by kernel_rfl) rfl rfl (by kernel_rfl) (by kernel_rfl) (by kernel_rfl) (fun _ _ _ h => h) (Or.inl ⟨by kernel_rfl, fun W hW => by obtain ⟨k0, k1, -, -⟩ := (Hk9.out.below (below_trans HF1.out HF1.out.size hW) Hk9.out.lt).cells2; go_simp; try with_reducible rfl⟩) hF ?_
                go_frame
                refine F_take (i := 2) (d := some 72) (by kernel_rfl) (by kernel_rfl) (by decide) (s' := #[true, true, true, false, false, false, false, false, false, false, false, false, false]) (by kernel_rfl) rfl rfl (by kernel_rfl) (by kernel_rfl) (by kernel_rfl) (fun _ _ _ h => h) (Or.inl ⟨by kernel_rfl, fun W hW => by go_simp; try with_reducible rfl⟩) hF ?_
                go_frame
                refine F_take (i := 3) (d := some 73) (by kernel_rfl) (by kernel_rfl) (by decide) (s' := #[true, true, true, true, false, false, false, false, false, false, false, false, false]) (by kernel_rfl) rfl rfl (by kernel_rfl) (by kernel_rfl) (by kernel_rfl) (fun _ _ _ h => h) (Or.inl ⟨by kernel_rfl, fun W hW => by go_simp; try with_reducible rfl⟩) hF ?_
                go_frame
                refine F_take (i := 4) (d := some 74) (by kernel_rfl) (by kernel_rfl) (by decide) (s' := #[true, true, true, true, true, false, false, false, false, false, false, false, false]) (by kernel_rfl) rfl rfl (by kernel_rfl) (by kernel_rfl) (by kernel_rfl) (fun _ _ _ h => h) (Or.inl ⟨by kernel_rfl, fun W hW => by go_simp; try with_reducible rfl⟩) hF ?_
                go_frame
                refine F_two (i := 5) (j := 10) (si := #[true, true, true, true, true, true, false, false, false, false, false, false, false]) (sj := #[true, true, true, true, true, false, false, false, false, false, true, false, false]) (by kernel_rfl) (by kernel_rfl) (by kernel_rfl) ?_ ?_
                · refine wpOp_enterL (i := 5) (d := some 75) (f := 27) (args := #[.int .i64 id, .slice A E.length cap]) rfl rfl (by kernel_rfl) (by go_simp) ((HT.out id wd ((Hw9.out.trans (HF1.out.mono Hw9.out.size)).trans (hF.mono (Hw9.out.trans (HF1.out.mono Hw9.out.size)).size))).mono ?_)
                  rintro r w5 ⟨⟨v5, N5, rfl, hN5, hT5⟩, hb5⟩
                  obtain ⟨A6, c6, hv5⟩ := hN5.row.shape
                  subst hv5
                  have hF := below_trans hF hF.size hb5
                  have hl5 := treeOf_len HD.out hT5
                  have hlw5 := treeOf_low rfl hT5
                  obtain ⟨n5, hn5⟩ : ∃ n, N5.length = n := ⟨_, rfl⟩
                  rw [hn5] at hN5 ⊢
                  obtain ⟨x5, hfx, -, -, hxa5⟩ := find_has (hT5.1 Hm0.out) Hyy.out
                  have hNr := hN5.reads (Below.refl _ _) hlw5
                  refine ⟨_, rfl, fun _ => hF, ?_⟩
                  go_frame
                  clear hN5 hT5 hb5
                  refine F_two (i := 6) (j := 10) (si := #[true, true, true, true, true, true, true, false, false, false, false, false, false]) (sj := #[true, true, true, true, true, true, false, false, false, false, true, false, false]) (by kernel_rfl) (by kernel_rfl) (by kernel_rfl) ?_ ?_
                  · refine wpOp_enterL (i := 6) (d := some 76) (f := 30) (args := #[.agg #[.int .i64 1, .int .i64 h2], .slice A6 n5 c6]) rfl rfl (by kernel_rfl) (by go_simp) ((Find_any 1 h2 A6 c6 n5 N5 w5 hNr (by omega) hn5.symm).mono ?_)
                    rintro r w7 ⟨hfo, hb7⟩
                    have hF := below_trans hF hF.size hb7
                    rcases hfo with ⟨x, A7, c7, hx, rfl, -⟩ | ⟨hx, -⟩
                    rotate_left
                    · rw [hfx] at hx; cases hx
                    rw [hfx] at hx
                    injection hx with hx
                    subst hx
                    obtain ⟨⟨q1, q2⟩, ⟨q3, q4⟩, qn⟩ := x5
                    have hq3 : q3 = y.c := by have := congrArg Val2.c hxa5; exact this
                    subst hq3
                    obtain ⟨nq, hnq⟩ : ∃ n, qn.length = n := ⟨_, rfl⟩
                    simp only
                    rw [hnq]
                    refine ⟨_, rfl, fun _ => hF, ?_⟩
                    go_frame
                    clear hxa5 hfx hn5 hl5 hlw5 hb7 hnq hNr
                    refine F_take (i := 7) (d := some 69) (by kernel_rfl) (by kernel_rfl) (by decide) (s' := #[true, true, true, true, true, true, true, true, false, false, false, false, false]) (by kernel_rfl) rfl rfl (by kernel_rfl) (by kernel_rfl) (by kernel_rfl) (fun _ _ _ h => h) (Or.inl ⟨by kernel_rfl, fun W hW => by go_simp; try with_reducible rfl⟩) hF ?_
                    go_frame
                    refine F_take (i := 8) (d := some 77) (by kernel_rfl) (by kernel_rfl) (by decide) (s' := #[true, true, true, true, true, true, true, true, true, false, false, false, false]) (by kernel_rfl) rfl rfl (by kernel_rfl) (by kernel_rfl) (by kernel_rfl) (fun _ _ _ h => h) (Or.inl ⟨by kernel_rfl, fun W hW => by go_simp; try with_reducible rfl⟩) hF ?_
                    go_frame
                    refine F_take (i := 9) (d := some 78) (by kernel_rfl) (by kernel_rfl) (by decide) (s' := #[true, true, true, true, true, true, true, true, true, true, false, false, false]) (by kernel_rfl) rfl rfl (by kernel_rfl) (by kernel_rfl) (by kernel_rfl) (fun _ _ _ h => h) (Or.inl ⟨by kernel_rfl, fun W hW => by go_simp; try with_reducible rfl⟩) hF ?_
                    go_frame
                    obtain ⟨we, hV⟩ : ∃ v, w7.alloc (.cells #[.int .i64 0, .int .i64 0, .int .i64 0, .int .i64 0, .slice none 0 0] 59) = v := ⟨_, rfl⟩
                    have hbq := below_new w7 (.cells #[.int .i64 0, .int .i64 0, .int .i64 0, .int .i64 0, .slice none 0 0] 59)
                    have kx := Blk.new w7 59 #[.int .i64 0, .int .i64 0, .int .i64 0, .int .i64 0, .slice none 0 0]
                    obtain ⟨px, hpx⟩ : ∃ p, w7.heap.size = p := ⟨_, rfl⟩
                    rw [hV] at hbq kx
                    rw [hpx] at kx
                    have hBp : w15.heap.size ≤ px := by have := hF.size; omega
                    have hF := below_trans hF hF.size hbq
                    refine F_one (i := 10) (s' := #[true, true, true, true, true, true, true, true, true, true, true, false, false]) (by kernel_rfl) (by kernel_rfl) (wpOp_valueL (i := 10) (d := some 12) (w' := we) (v := .pointer (some ⟨px, 0, none⟩)) rfl rfl (by kernel_rfl) (by go_simp) ⟨fun _ => hF, ?_⟩)
                    go_frame
                    clear hbq hV hpx
                    obtain ⟨wz, hwz⟩ : ∃ v, (((((we.setCell ⟨px, 0, none⟩ (.int .i64 q1)).setCell ⟨px, 1, none⟩ (.int .i64 q2)).setCell ⟨px, 2, none⟩ (.int .i64 y.c)).setCell ⟨px, 3, none⟩ (.int .i64 q4)).setCell ⟨px, 4, none⟩ (.slice A7 nq c7)) = v := ⟨_, rfl⟩
                    obtain ⟨⟨s0, s1, s2, s3, s4⟩, sf0, sf1, sf2, sf3, sf4⟩ := blk5 kx
                    have kx := Blk.put5 kx (.int .i64 q1) (.int .i64 q2) (.int .i64 y.c) (.int .i64 q4) (.slice A7 nq c7)
                    have hF := below_put5 hF hBp (.int .i64 q1) (.int .i64 q2) (.int .i64 y.c) (.int .i64 q4) (.slice A7 nq c7)
                    rw [hwz] at kx hF
                    refine F_one (i := 11) (s' := #[true, true, true, true, true, true, true, true, true, true, true, true, false]) (by kernel_rfl) (by kernel_rfl) (wpOp_skipL (i := 11) (w' := wz) rfl rfl (by kernel_rfl) (by go_simp) ⟨fun _ => hF, ?_⟩)
                    go_frame
                    clear hwz s0 s1 s2 s3 s4 sf0 sf1 sf2 sf3 sf4
                    refine F_one (i := 12) (s' := #[true, true, true, true, true, true, true, true, true, true, true, true, true]) (by kernel_rfl) (by kernel_rfl) (wpOp_valueL (i := 12) (d := some 13) (w' := wz) (v := .bool true) rfl rfl (by kernel_rfl) (by go_simp) ⟨fun h => absurd h (by decide), ?_⟩)
                    go_frame
                    refine F_done (by kernel_rfl) ?_ _
                    have HF2 := Lib.hid (below_trans HF1.out HF1.out.size hF)
                    have K10 := Lib.hid (K10a.out.below hF K10a.out.lt)
                    have K12 := Lib.hid kx
                    clear hF kx hBp
                    have c2 : (h2 == id) = false := by simp; exact Hq2.out
                    have c3 : (((b.c : Nat) : Int) + ((y.c : Nat) : Int) != (xa : Int)) = false := by have := Hq4.out; simp; omega
                    have c4 : decide ((y.c : Int) < 1) = false := by have := Hq5.out; simp; omega
                    have hbl := dist_low HD.out (by have := HE60.out; omega) Hbb.out
                    have hyl := dist_low HD.out (by have := HE60.out; omega) Hyy.out
                    have hbl2 : (b.c : Int) ≤ 100000000 := by omega
                    have hyl2 : (y.c : Int) ≤ 100000000 := by omega
                    have hbl3 : 0 ≤ (b.c : Int) := by omega
                    have hyl3 : 1 ≤ (y.c : Int) := by have := Hq5.out; omega
                    have hsum : (b.c : Int) + (y.c : Int) = (xa : Int) := by have := Hq4.out; omega
                    obtain ⟨k0, k1, -, -⟩ := (Hk9.out.below HF2.out Hk9.out.lt).cells2
                    obtain ⟨⟨z0, z1, z2, z3, z4⟩, -⟩ := blk5 (Hk69.out.below HF2.out Hk69.out.lt)
                    obtain ⟨⟨p0, p1, p2, p3, p4⟩, -⟩ := blk5 (K10.out)
                    obtain ⟨⟨r0, r1, r2, r3, r4⟩, -⟩ := blk5 (K12.out)
                    have Hend := Lib.hid (below_trans Hb9.out Hb9.out.size HF2.out)
                    clear hbl hyl
                    go_wp2
                    go_roundw
                    case measure => have := Hjl.out; simp [intOf]; omega
                    case rel => exact ⟨j + 1, by go_num, Hjl.out, Hend.out⟩
                  · obtain ⟨we, hV⟩ : ∃ v, w5.alloc (.cells #[.int .i64 0, .int .i64 0, .int .i64 0, .int .i64 0, .slice none 0 0] 59) = v := ⟨_, rfl⟩
                    have hbq := below_new w5 (.cells #[.int .i64 0, .int .i64 0, .int .i64 0, .int .i64 0, .slice none 0 0] 59)
                    have kx := Blk.new w5 59 #[.int .i64 0, .int .i64 0, .int .i64 0, .int .i64 0, .slice none 0 0]
                    obtain ⟨px, hpx⟩ : ∃ p, w5.heap.size = p := ⟨_, rfl⟩
                    rw [hV] at hbq kx
                    rw [hpx] at kx
                    have hBp : w15.heap.size ≤ px := by have := hF.size; omega
                    have hF := below_trans hF hF.size hbq
                    have hNr := (hNr.below hbq).more hbq.size
                    refine wpOp_valueL (i := 10) (d := some 12) (w' := we) (v := .pointer (some ⟨px, 0, none⟩)) rfl rfl (by kernel_rfl) (by go_simp) ⟨fun _ => hF, ?_⟩
                    go_frame
                    clear hbq hV hpx
                    refine F_one (i := 6) (s' := #[true, true, true, true, true, true, true, false, false, false, true, false, false]) (by kernel_rfl) (by kernel_rfl) (wpOp_enterL (i := 6) (d := some 76) (f := 30) (args := #[.agg #[.int .i64 1, .int .i64 h2], .slice A6 n5 c6]) rfl rfl (by kernel_rfl) (by go_simp) ((Find_any 1 h2 A6 c6 n5 N5 we hNr (by omega) hn5.symm).mono ?_))
                    rintro r w7 ⟨hfo, hb7⟩
                    have hF := below_trans hF hF.size hb7
                    have kx := kx.below hb7 kx.lt
                    rcases hfo with ⟨x, A7, c7, hx, rfl, -⟩ | ⟨hx, -⟩
                    rotate_left
                    · rw [hfx] at hx; cases hx
                    rw [hfx] at hx
                    injection hx with hx
                    subst hx
                    obtain ⟨⟨q1, q2⟩, ⟨q3, q4⟩, qn⟩ := x5
                    have hq3 : q3 = y.c := by have := congrArg Val2.c hxa5; exact this
                    subst hq3
                    obtain ⟨nq, hnq⟩ : ∃ n, qn.length = n := ⟨_, rfl⟩
                    simp only
                    rw [hnq]
                    refine ⟨_, rfl, fun _ => hF, ?_⟩
                    go_frame
                    clear hxa5 hfx hn5 hl5 hlw5 hb7 hnq hNr
                    refine F_take (i := 7) (d := some 69) (by kernel_rfl) (by kernel_rfl) (by decide) (s' := #[true, true, true, true, true, true, true, true, false, false, true, false, false]) (by kernel_rfl) rfl rfl (by kernel_rfl) (by kernel_rfl) (by kernel_rfl) (fun _ _ _ h => h) (Or.inl ⟨by kernel_rfl, fun W hW => by go_simp; try with_reducible rfl⟩) hF ?_
                    go_frame
                    refine F_take (i := 8) (d := some 77) (by kernel_rfl) (by kernel_rfl) (by decide) (s' := #[true, true, true, true, true, true, true, true, true, false, true, false, false]) (by kernel_rfl) rfl rfl (by kernel_rfl) (by kernel_rfl) (by kernel_rfl) (fun _ _ _ h => h) (Or.inl ⟨by kernel_rfl, fun W hW => by go_simp; try with_reducible rfl⟩) hF ?_
                    go_frame
                    refine F_take (i := 9) (d := some 78) (by kernel_rfl) (by kernel_rfl) (by decide) (s' := #[true, true, true, true, true, true, true, true, true, true, true, false, false]) (by kernel_rfl) rfl rfl (by kernel_rfl) (by kernel_rfl) (by kernel_rfl) (fun _ _ _ h => h) (Or.inl ⟨by kernel_rfl, fun W hW => by go_simp; try with_reducible rfl⟩) hF ?_
                    go_frame
                    obtain ⟨wz, hwz⟩ : ∃ v, (((((w7.setCell ⟨px, 0, none⟩ (.int .i64 q1)).setCell ⟨px, 1, none⟩ (.int .i64 q2)).setCell ⟨px, 2, none⟩ (.int .i64 y.c)).setCell ⟨px, 3, none⟩ (.int .i64 q4)).setCell ⟨px, 4, none⟩ (.slice A7 nq c7)) = v := ⟨_, rfl⟩
                    obtain ⟨⟨s0, s1, s2, s3, s4⟩, sf0, sf1, sf2, sf3, sf4⟩ := blk5 kx
                    have kx := Blk.put5 kx (.int .i64 q1) (.int .i64 q2) (.int .i64 y.c) (.int .i64 q4) (.slice A7 nq c7)
                    have hF := below_put5 hF hBp (.int .i64 q1) (.int .i64 q2) (.int .i64 y.c) (.int .i64 q4) (.slice A7 nq c7)
                    rw [hwz] at kx hF
                    refine F_one (i := 11) (s' := #[true, true, true, true, true, true, true, true, true, true, true, true, false]) (by kernel_rfl) (by kernel_rfl) (wpOp_skipL (i := 11) (w' := wz) rfl rfl (by kernel_rfl) (by go_simp) ⟨fun _ => hF, ?_⟩)
                    go_frame
                    clear hwz s0 s1 s2 s3 s4 sf0 sf1 sf2 sf3 sf4
                    refine F_one (i := 12) (s' := #[true, true, true, true, true, true, true, true, true, true, true, true, true]) (by kernel_rfl) (by kernel_rfl) (wpOp_valueL (i := 12) (d := some 13) (w' := wz) (v := .bool true) rfl rfl (by kernel_rfl) (by go_simp) ⟨fun h => absurd h (by decide), ?_⟩)
                    go_frame
                    refine F_done (by kernel_rfl) ?_ _
                    have HF2 := Lib.hid (below_trans HF1.out HF1.out.size hF)
                    have K10 := Lib.hid (K10a.out.below hF K10a.out.lt)
                    have K12 := Lib.hid kx
                    clear hF kx hBp
                    have c2 : (h2 == id) = false := by simp; exact Hq2.out
                    have c3 : (((b.c : Nat) : Int) + ((y.c : Nat) : Int) != (xa : Int)) = false := by have := Hq4.out; simp; omega
                    have c4 : decide ((y.c : Int) < 1) = false := by have := Hq5.out; simp; omega
                    have hbl := dist_low HD.out (by have := HE60.out; omega) Hbb.out
                    have hyl := dist_low HD.out (by have := HE60.out; omega) Hyy.out
                    have hbl2 : (b.c : Int) ≤ 100000000 := by omega
                    have hyl2 : (y.c : Int) ≤ 100000000 := by omega
                    have hbl3 : 0 ≤ (b.c : Int) := by omega
                    have hyl3 : 1 ≤ (y.c : Int) := by have := Hq5.out; omega
                    have hsum : (b.c : Int) + (y.c : Int) = (xa : Int) := by have := Hq4.out; omega
                    obtain ⟨k0, k1, -, -⟩ := (Hk9.out.below HF2.out Hk9.out.lt).cells2
                    obtain ⟨⟨z0, z1, z2, z3, z4⟩, -⟩ := blk5 (Hk69.out.below HF2.out Hk69.out.lt)
                    obtain ⟨⟨p0, p1, p2, p3, p4⟩, -⟩ := blk5 (K10.out)
                    obtain ⟨⟨r0, r1, r2, r3, r4⟩, -⟩ := blk5 (K12.out)
                    have Hend := Lib.hid (below_trans Hb9.out Hb9.out.size HF2.out)
                    clear hbl hyl
                    go_wp2
                    go_roundw
                    case measure => have := Hjl.out; simp [intOf]; omega
                    case rel => exact ⟨j + 1, by go_num, Hjl.out, Hend.out⟩
                · obtain ⟨we, hV⟩ : ∃ v, wd.alloc (.cells #[.int .i64 0, .int .i64 0, .int .i64 0, .int .i64 0, .slice none 0 0] 59) = v := ⟨_, rfl⟩
                  have hbq := below_new wd (.cells #[.int .i64 0, .int .i64 0, .int .i64 0, .int .i64 0, .slice none 0 0] 59)
                  have kx := Blk.new wd 59 #[.int .i64 0, .int .i64 0, .int .i64 0, .int .i64 0, .slice none 0 0]
                  obtain ⟨px, hpx⟩ : ∃ p, wd.heap.size = p := ⟨_, rfl⟩
                  rw [hV] at hbq kx
                  rw [hpx] at kx
                  have hBp : w15.heap.size ≤ px := by have := hF.size; omega
                  have hF := below_trans hF hF.size hbq
                  refine wpOp_valueL (i := 10) (d := some 12) (w' := we) (v := .pointer (some ⟨px, 0, none⟩)) rfl rfl (by kernel_rfl) (by go_simp) ⟨fun _ => hF, ?_⟩
                  go_frame
                  clear hbq hV hpx
                  refine F_one (i := 5) (s' := #[true, true, true, true, true, true, false, false, false, false, true, false, false]) (by kernel_rfl) (by kernel_rfl) (wpOp_enterL (i := 5) (d := some 75) (f := 27) (args := #[.int .i64 id, .slice A E.length cap]) rfl rfl (by kernel_rfl) (by go_simp) ((HT.out id we ((Hw9.out.trans (HF1.out.mono Hw9.out.size)).trans (hF.mono (Hw9.out.trans (HF1.out.mono Hw9.out.size)).size))).mono ?_))
                  rintro r w5 ⟨⟨v5, N5, rfl, hN5, hT5⟩, hb5⟩
                  obtain ⟨A6, c6, hv5⟩ := hN5.row.shape
                  subst hv5
                  have hF := below_trans hF hF.size hb5
                  have hl5 := treeOf_len HD.out hT5
                  have hlw5 := treeOf_low rfl hT5
                  obtain ⟨n5, hn5⟩ : ∃ n, N5.length = n := ⟨_, rfl⟩
                  rw [hn5] at hN5 ⊢
                  obtain ⟨x5, hfx, -, -, hxa5⟩ := find_has (hT5.1 Hm0.out) Hyy.out
                  have hNr := hN5.reads (Below.refl _ _) hlw5
                  have kx := kx.below hb5 kx.lt
                  refine ⟨_, rfl, fun _ => hF, ?_⟩
                  go_frame
                  clear hN5 hT5 hb5
                  refine F_one (i := 6) (s' := #[true, true, true, true, true, true, true, false, false, false, true, false, false]) (by kernel_rfl) (by kernel_rfl) (wpOp_enterL (i := 6) (d := some 76) (f := 30) (args := #[.agg #[.int .i64 1, .int .i64 h2], .slice A6 n5 c6]) rfl rfl (by kernel_rfl) (by go_simp) ((Find_any 1 h2 A6 c6 n5 N5 w5 hNr (by omega) hn5.symm).mono ?_))
                  rintro r w7 ⟨hfo, hb7⟩
                  have hF := below_trans hF hF.size hb7
                  have kx := kx.below hb7 kx.lt
                  rcases hfo with ⟨x, A7, c7, hx, rfl, -⟩ | ⟨hx, -⟩
                  rotate_left
                  · rw [hfx] at hx; cases hx
                  rw [hfx] at hx
                  injection hx with hx
                  subst hx
                  obtain ⟨⟨q1, q2⟩, ⟨q3, q4⟩, qn⟩ := x5
                  have hq3 : q3 = y.c := by have := congrArg Val2.c hxa5; exact this
                  subst hq3
                  obtain ⟨nq, hnq⟩ : ∃ n, qn.length = n := ⟨_, rfl⟩
                  simp only
                  rw [hnq]
                  refine ⟨_, rfl, fun _ => hF, ?_⟩
                  go_frame
                  clear hxa5 hfx hn5 hl5 hlw5 hb7 hnq hNr
                  refine F_take (i := 7) (d := some 69) (by kernel_rfl) (by kernel_rfl) (by decide) (s' := #[true, true, true, true, true, true, true, true, false, false, true, false, false]) (by kernel_rfl) rfl rfl (by kernel_rfl) (by kernel_rfl) (by kernel_rfl) (fun _ _ _ h => h) (Or.inl ⟨by kernel_rfl, fun W hW => by go_simp; try with_reducible rfl⟩) hF ?_
                  go_frame
                  refine F_take (i := 8) (d := some 77) (by kernel_rfl) (by kernel_rfl) (by decide) (s' := #[true, true, true, true, true, true, true, true, true, false, true, false, false]) (by kernel_rfl) rfl rfl (by kernel_rfl) (by kernel_rfl) (by kernel_rfl) (fun _ _ _ h => h) (Or.inl ⟨by kernel_rfl, fun W hW => by go_simp; try with_reducible rfl⟩) hF ?_
                  go_frame
                  refine F_take (i := 9) (d := some 78) (by kernel_rfl) (by kernel_rfl) (by decide) (s' := #[true, true, true, true, true, true, true, true, true, true, true, false, false]) (by kernel_rfl) rfl rfl (by kernel_rfl) (by kernel_rfl) (by kernel_rfl) (fun _ _ _ h => h) (Or.inl ⟨by kernel_rfl, fun W hW => by go_simp; try with_reducible rfl⟩) hF ?_
                  go_frame
                  obtain ⟨wz, hwz⟩ : ∃ v, (((((w7.setCell ⟨px, 0, none⟩ (.int .i64 q1)).setCell ⟨px, 1, none⟩ (.int .i64 q2)).setCell ⟨px, 2, none⟩ (.int .i64 y.c)).setCell ⟨px, 3, none⟩ (.int .i64 q4)).setCell ⟨px, 4, none⟩ (.slice A7 nq c7)) = v := ⟨_, rfl⟩
                  obtain ⟨⟨s0, s1, s2, s3, s4⟩, sf0, sf1, sf2, sf3, sf4⟩ := blk5 kx
                  have kx := Blk.put5 kx (.int .i64 q1) (.int .i64 q2) (.int .i64 y.c) (.int .i64 q4) (.slice A7 nq c7)
                  have hF := below_put5 hF hBp (.int .i64 q1) (.int .i64 q2) (.int .i64 y.c) (.int .i64 q4) (.slice A7 nq c7)
                  rw [hwz] at kx hF
                  refine F_one (i := 11) (s' := #[true, true, true, true, true, true, true, true, true, true, true, true, false]) (by kernel_rfl) (by kernel_rfl) (wpOp_skipL (i := 11) (w' := wz) rfl rfl (by kernel_rfl) (by go_simp) ⟨fun _ => hF, ?_⟩)
                  go_frame
                  clear hwz s0 s1 s2 s3 s4 sf0 sf1 sf2 sf3 sf4
                  refine F_one (i := 12) (s' := #[true, true, true, true, true, true, true, true, true, true, true, true, true]) (by kernel_rfl) (by kernel_rfl) (wpOp_valueL (i := 12) (d := some 13) (w' := wz) (v := .bool true) rfl rfl (by kernel_rfl) (by go_simp) ⟨fun h => absurd h (by decide), ?_⟩)
                  go_frame
                  refine F_done (by kernel_rfl) ?_ _
                  have HF2 := Lib.hid (below_trans HF1.out HF1.out.size hF)
                  have K10 := Lib.hid (K10a.out.below hF K10a.out.lt)
                  have K12 := Lib.hid kx
                  clear hF kx hBp
                  have c2 : (h2 == id) = false := by simp; exact Hq2.out
                  have c3 : (((b.c : Nat) : Int) + ((y.c : Nat) : Int) != (xa : Int)) = false := by have := Hq4.out; simp; omega
                  have c4 : decide ((y.c : Int) < 1) = false := by have := Hq5.out; simp; omega
                  have hbl := dist_low HD.out (by have := HE60.out; omega) Hbb.out
                  have hyl := dist_low HD.out (by have := HE60.out; omega) Hyy.out
                  have hbl2 : (b.c : Int) ≤ 100000000 := by omega
                  have hyl2 : (y.c : Int) ≤ 100000000 := by omega
                  have hbl3 : 0 ≤ (b.c : Int) := by omega
                  have hyl3 : 1 ≤ (y.c : Int) := by have := Hq5.out; omega
                  have hsum : (b.c : Int) + (y.c : Int) = (xa : Int) := by have := Hq4.out; omega
                  obtain ⟨k0, k1, -, -⟩ := (Hk9.out.below HF2.out Hk9.out.lt).cells2
                  obtain ⟨⟨z0, z1, z2, z3, z4⟩, -⟩ := blk5 (Hk69.out.below HF2.out Hk69.out.lt)
                  obtain ⟨⟨p0, p1, p2, p3, p4⟩, -⟩ := blk5 (K10.out)
                  obtain ⟨⟨r0, r1, r2, r3, r4⟩, -⟩ := blk5 (K12.out)
                  have Hend := Lib.hid (below_trans Hb9.out Hb9.out.size HF2.out)
                  clear hbl hyl
                  go_wp2
                  go_roundw
                  case measure => have := Hjl.out; simp [intOf]; omega
                  case rel => exact ⟨j + 1, by go_num, Hjl.out, Hend.out⟩
          · have hje : j = nl := by omega
            subst hje
            have hjk : ¬ (j : Int) < (j : Int) := by omega
            have Hb := Lib.hid (below_trans Hb6.out Hb6.out.size hb)
            clear hjl hb hj
            go_wp2
            go_roundw
            case measure => have := Hlt.out; simp [intOf]; omega
            case rel => exact ⟨k + 1, by go_num, Hlt.out, Hb.out⟩
      · have hke : k = nN := by omega
        subst hke
        have hkk2 : ¬ (k : Int) < (k : Int) := by omega
        have Hb := Lib.hid (below_trans Hb3.out Hb3.out.size hb)
        clear hlt hb hk
        go_wp2
        go_ret
        exact ⟨rfl, Hb.out⟩

end Go.Proofs.Ytpfjgecdlilkcaa
