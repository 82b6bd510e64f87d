/-
  The law SpfIs: its walk.
-/
import Derived.Test.YtpfjgecdlilkcaaBaq
namespace Go.Proofs.Ytpfjgecdlilkcaa
open Go.RowKit

set_option maxHeartbeats 16000000 in
set_option maxRecDepth 100000 in
theorem spfIs_any (ri : Int) (A : Option Addr) (cap : Nat) (E : List Ed) (w : World) (hl : RowsAt 5 Ed.cells w w.heap.size A E) (hm : E.length ≤ maxLen) :
    Calls Try.prog 7 #[.int .i64 ri, .slice A E.length cap] w fun r w' => r = .returned (.bool true) ∧ Below w.heap.size w w' := by
  have HE := Lib.hid hl
  obtain ⟨DD, hD⟩ := dists_are E
  have HD := Lib.hid hD
  unfold maxLen at hm
  clear hl hD
  go_enter Try.func7, Try.ntmps7
  go_wp2_with fail
  with_reducible refine Calls.mono (wakes21 _) ?_
  rintro r w1 ⟨rfl, hb1⟩
  have Hb1 := Lib.hid hb1
  clear hb1
  by_cases h60 : (60 : Int) < (E.length : Int)
  · go_wp2
    go_ret
    exact ⟨rfl, Hb1.out⟩
  · have hE60 : E.length ≤ 4000 := by omega
    have HT := Lib.hid (fun W (hW : Below w.heap.size w W) => Tree_any ri A cap E W ((HE.out.below hW).more hW.size) hE60 E.length rfl DD HD.out)
    have HRT := Lib.hid (fun W (hW : Below w.heap.size w W) => refTree_all ri A cap E W ((HE.out.below hW).more hW.size) hE60 E.length rfl DD HD.out)
    clear hE60
    go_wp2_with fail
    with_reducible refine Calls.mono (HT.out _ Hb1.out) ?_
    rintro r w3 ⟨⟨v, N, rfl, hN, hTr⟩, hb3⟩
    have HTr := Lib.hid hTr
    have HNl := Lib.hid (treeOf_len HD.out hTr)
    have hlow := treeOf_low rfl hTr
    have Hlow := Lib.hid hlow
    obtain ⟨A5, c5, hv⟩ := hN.row.shape
    subst hv
    obtain ⟨nN, hnN⟩ : ∃ n, N.length = n := ⟨_, rfl⟩
    rw [hnN] at hN ⊢
    have HN := Lib.hid (fun W hW => hN.reads (w' := W) hW hlow)
    have HnN := Lib.hid hnN
    have hnN2 : (nN : Int) ≤ 79 := by have := HNl.out; omega
    have Hb3 := Lib.hid (below_trans Hb1.out Hb1.out.size hb3)
    clear hN hTr hlow hnN hb3 h60
    go_wp2_with fail
    with_reducible refine Calls.mono (HRT.out _ Hb3.out) ?_
    rintro r w4 ⟨⟨v, M, rfl, hM, hTm⟩, hb4⟩
    have hNM := treeOf_unique HD.out HTr.out hTm
    have hlowm := treeOf_low rfl hTm
    obtain ⟨A6, c6, hv⟩ := hM.row.shape
    subst hv
    have hll : M.length = nN := by have := congrArg List.length hNM; rw [List.length_map, List.length_map] at this; rw [← this]; exact HnN.out
    rw [hll] at hM ⊢
    have HS := Lib.hid (refSame21 A5 A6 c5 c6 nN nN N M w4 (HN.out w4 hb4) (hM.reads (Below.refl _ _) hlowm) hNM (by have := HNl.out; omega) HnN.out.symm hll.symm)
    have Hb4 := Lib.hid hb4
    clear hM hTm hNM hlowm hll hb4
    go_wp2_with fail
    with_reducible refine Calls.mono HS.out ?_
    rintro r w5 ⟨rfl, hb5⟩
    have Hb5 := Lib.hid (below_trans Hb4.out Hb4.out.size hb5)
    clear hb5 HS HRT HT
    go_wp2_with fail
    go_loopw [28] (fun i wr => ∃ k : Nat, i = .int .i64 k ∧ k ≤ nN ∧ Below w3.heap.size w3 wr) (fun i _ => nN - (intOf i).toNat)
    case atStart => exact ⟨0, rfl, Nat.zero_le _, Hb5.out⟩
    case round =>
      obtain ⟨k, rfl, hk, hb⟩ := hrel
      by_cases hlt : k < nN
      · have hki2 : (k : Int) < (nN : Int) := by omega
        have hkL : k < N.length := by rw [HnN.out]; exact hlt
        have hin : N[k] ∈ N := List.getElem_mem hkL
        obtain ⟨g, o, hA, -, x0, x1, x2, x3, x4⟩ := row_nd (HN.out wr hb).rows k hkL
        have hfo := find_own (treeOf_in HTr.out (List.mem_map.2 ⟨_, hin, rfl⟩)) hin
        have Hlx := Lib.hid (Hlow.out _ hin)
        have heach : ∀ W, Below w3.heap.size w3 W → RowsH W W.heap.size N[k].A N[k].next := fun W hW => (HN.out W hW).each _ hin
        subst hA
        generalize N[k] = x at *
        obtain ⟨⟨vk, vi⟩, ⟨xa, xh⟩, xA, xc, xn⟩ := x
        simp only at x0 x1 x2 x3 x4 hfo heach
        have Hlx2 := Lib.hid (show xn.length ≤ 2 ^ 16 from Hlx.out)
        have Hfo := Lib.hid hfo
        have Heach := Lib.hid heach
        obtain ⟨nl, hnl⟩ : ∃ n, xn.length = n := ⟨_, rfl⟩
        rw [hnl] at x4
        have Hnl := Lib.hid hnl
        have hb6 := below_new wr (.cells #[.int .i64 vk, .int .i64 vi, .int .i64 xa, .int .i64 xh, .slice xA nl xc] 59)
        have hk6 := Blk.new wr 59 #[.int .i64 vk, .int .i64 vi, .int .i64 xa, .int .i64 xh, .slice xA nl xc]
        obtain ⟨w6, hw6⟩ : ∃ w6, wr.alloc (.cells #[.int .i64 vk, .int .i64 vi, .int .i64 xa, .int .i64 xh, .slice xA nl xc] 59) = w6 := ⟨_, rfl⟩
        obtain ⟨g6, hg6⟩ : ∃ g6, wr.heap.size = g6 := ⟨_, rfl⟩
        rw [hw6, hg6] at hk6
        rw [hw6] at hb6
        have Hb6 := Lib.hid (below_trans hb hb.size hb6)
        have Hk6 := Lib.hid hk6
        have Hlt := Lib.hid hlt
        have HFi := Lib.hid (Find_any vk vi (some ⟨g, o, none⟩) c5 nN N w6 (HN.out w6 (below_trans hb hb.size hb6)) (by have := HNl.out; omega) HnN.out.symm)
        obtain ⟨⟨z0, z1, z2, z3, z4⟩, -⟩ := blk5 hk6
        clear hb hb6 hk6 hnl hlt hkL hk hfo heach hin Hlx
        go_wp2_with fail
        clear x0 x1 x2 x3 x4 z0 z1 z2 z3 z4 hw6 hg6
        with_reducible refine Calls.mono HFi.out ?_
        rintro r w7 ⟨hfo, hb7⟩
        rcases hfo with ⟨y, A14, c14, hx, rfl, ho⟩ | ⟨hx, -⟩
        rotate_left
        · rw [Hfo.out] at hx; cases hx
        rw [Hfo.out] at hx
        injection hx with hx
        subst hx
        simp only [NodeM.nk] at ho ⊢
        rw [Hnl.out] at ho ⊢
        have Hb7 := Lib.hid (below_trans Hb6.out Hb6.out.size hb7)
        have Hk7 := Lib.hid (Hk6.out.below hb7 Hk6.out.lt)
        have Ho := Lib.hid (OwnR.rows (C := 2) (cells := Hp.cells) (fun _ => rfl) ho).2
        -- the block of what was found
        have hb8 := below_new w7 (.cells #[.int .i64 vk, .int .i64 vi, .int .i64 xa, .int .i64 xh, .slice A14 nl c14] 59)
        have hk8 := Blk.new w7 59 #[.int .i64 vk, .int .i64 vi, .int .i64 xa, .int .i64 xh, .slice A14 nl c14]
        obtain ⟨w8, hw8⟩ : ∃ v, w7.alloc (.cells #[.int .i64 vk, .int .i64 vi, .int .i64 xa, .int .i64 xh, .slice A14 nl c14] 59) = v := ⟨_, rfl⟩
        obtain ⟨g8, hg8⟩ : ∃ g, w7.heap.size = g := ⟨_, rfl⟩
        rw [hw8, hg8] at hk8
        rw [hw8] at hb8
        have hb9 := below_new w8 (.cells #[.int .i64 vk, .int .i64 vi, .int .i64 xa, .int .i64 xh, .slice A14 nl c14] 59)
        have hk9 := Blk.new w8 59 #[.int .i64 vk, .int .i64 vi, .int .i64 xa, .int .i64 xh, .slice A14 nl c14]
        obtain ⟨w9, hw9⟩ : ∃ v, w8.alloc (.cells #[.int .i64 vk, .int .i64 vi, .int .i64 xa, .int .i64 xh, .slice A14 nl c14] 59) = v := ⟨_, rfl⟩
        obtain ⟨g9, hg9⟩ : ∃ g, w8.heap.size = g := ⟨_, rfl⟩
        rw [hw9, hg9] at hk9
        rw [hw9] at hb9
        have hb10 := below_new w9 (.cells #[.int .i64 vk, .int .i64 vi, .int .i64 xa, .int .i64 xh, .slice xA nl xc] 59)
        have hk10 := Blk.new w9 59 #[.int .i64 vk, .int .i64 vi, .int .i64 xa, .int .i64 xh, .slice xA nl xc]
        obtain ⟨w10, hw10⟩ : ∃ v, w9.alloc (.cells #[.int .i64 vk, .int .i64 vi, .int .i64 xa, .int .i64 xh, .slice xA nl xc] 59) = v := ⟨_, rfl⟩
        obtain ⟨g10, hg10⟩ : ∃ g, w9.heap.size = g := ⟨_, rfl⟩
        rw [hw10, hg10] at hk10
        rw [hw10] at hb10
        have hb7a := below_trans hb8 hb8.size (below_trans hb9 hb9.size hb10)
        have Hb10 := Lib.hid (below_trans Hb7.out Hb7.out.size hb7a)
        have hx1 : Blk w10 g9 59 #[.int .i64 vk, .int .i64 vi, .int .i64 xa, .int .i64 xh, .slice A14 xn.length c14] := by rw [Hnl.out]; exact hk9.below hb10 hk9.lt
        have hx2 : Blk w10 g10 59 #[.int .i64 vk, .int .i64 vi, .int .i64 xa, .int .i64 xh, .slice xA xn.length xc] := by rw [Hnl.out]; exact hk10
        have HS := Lib.hid (refSame21 (some ⟨g9, 0, none⟩) (some ⟨g10, 0, none⟩) 1 1 1 1 [⟨⟨vk, vi⟩, ⟨xa, xh⟩, A14, c14, xn⟩] [⟨⟨vk, vi⟩, ⟨xa, xh⟩, xA, xc, xn⟩] w10
          (nodes_one (x := ⟨⟨vk, vi⟩, ⟨xa, xh⟩, A14, c14, xn⟩) hx1 ((Ho.out.below hb7a).more hb7a.size) Hlx2.out) (nodes_one (x := ⟨⟨vk, vi⟩, ⟨xa, xh⟩, xA, xc, xn⟩) hx2 (Heach.out w10 Hb10.out) Hlx2.out) rfl (by simp) rfl rfl)
        obtain ⟨⟨y0, y1, y2, y3, y4⟩, -⟩ := blk5 hk8
        obtain ⟨⟨u0, u1, u2, u3, u4⟩, -⟩ := blk5 (Hk7.out.below (below_trans hb8 hb8.size hb9) Hk7.out.lt)
        clear ho hb7 hb8 hk8 hb9 hk9 hb10 hk10 hb7a hx1 hx2
        go_wp2_with fail
        clear y0 y1 y2 y3 y4 u0 u1 u2 u3 u4 hw8 hw9 hw10 hg8 hg9 hg10
        with_reducible refine Calls.mono HS.out ?_
        rintro r w11 ⟨rfl, hb11⟩
        have Hb11 := Lib.hid (below_trans Hb10.out Hb10.out.size hb11)
        clear hb11
        go_wp2
        go_roundw
        case measure => have := Hlt.out; simp [intOf]; omega
        case rel => exact ⟨k + 1, by go_num, Hlt.out, Hb11.out⟩
      · have hke : k = nN := by omega
        subst hke
        have hkk2 : ¬ (k : Int) < (k : Int) := by omega
        have HFi := Lib.hid (Find_any 3 0 A5 c5 k N wr (HN.out wr hb) (by have := HNl.out; omega) HnN.out.symm)
        have Hno := Lib.hid (find_other (v := ⟨3, 0⟩) HD.out HTr.out rfl)
        have Hbe := Lib.hid hb
        clear hb hlt hk
        go_wp2_with fail
        with_reducible refine Calls.mono HFi.out ?_
        rintro r w7 ⟨hfo, hb7⟩
        rcases hfo with ⟨y, A14, c14, hx, -, -⟩ | ⟨-, rfl⟩
        · rw [Hno.out] at hx; cases hx
        have Hb7 := Lib.hid (below_trans Hb3.out Hb3.out.size (below_trans Hbe.out Hbe.out.size hb7))
        clear hb7
        go_wp2
        go_ret
        exact ⟨rfl, Hb7.out.alloc Hb7.out.size _⟩

end Go.Proofs.Ytpfjgecdlilkcaa
