/-
  Layer 22: one more end of a network.
-/
import Derived.Shelf.SlGeneric
import Derived.Shelf.SlSortCmp.NoneTotal
import Derived.Ground.SlsfProg
import Derived.Test.YtpnbibokddhheaaGreatProg
import Derived.Test.YtpnbibokddhheaaGreatBad
import Derived.Test.YtpnbibokddhheaaGreatBae
import Derived.Test.YtpnbibokddhheaaGreatBaf
import Derived.Test.YtpnbibokddhheaaGreatBai
import Derived.Test.YtpnbibokddhheaaGreatBaj
import Derived.Test.YtpnbibokddhheaaGreatBak
namespace Go.Proofs.YtpnbibokddhheaaGreat
open Go.RowKit Go.Sort Go.Proofs

set_option maxHeartbeats 2000000 in
set_option maxRecDepth 100000 in
theorem hopCmpT_any (a b : Hp) (w : World) : Calls Tryz.prog 69 #[.agg a.cells.toArray, .agg b.cells.toArray] w fun r w' => r = .returned (.int .i64 (cmpHp a b)) ∧ ∃ q os', w' = grow (w.drewN q) os' := by
  obtain ⟨a1, a2⟩ := a
  obtain ⟨b1, b2⟩ := b
  unfold cmpHp Hp.cells
  simp only
  obtain ⟨w0, hW0⟩ : ∃ w0, (w.alloc (.cells #[.int .i64 a1, .int .i64 a2] 95)).alloc (.cells #[.int .i64 b1, .int .i64 b2] 95) = w0 := ⟨_, rfl⟩
  have hA : Blk w0 w.heap.size 95 #[.int .i64 a1, .int .i64 a2] := by rw [← hW0]; exact (Blk.new w _ _).alloc _
  have hB : Blk w0 (w.heap.size + 1) 95 #[.int .i64 b1, .int .i64 b2] := by rw [← hW0]; exact Blk.size (by simp)
  have Hg : Hid (∃ os, w0 = grow w os) := Lib.hid ⟨_, by rw [← hW0, alloc_eq_grow, alloc_eq_grow, grow_grow]⟩
  obtain ⟨a_0, a_1⟩ : _ ∧ _ := ⟨hA.cell 0, hA.cell 1⟩
  obtain ⟨b_0, b_1⟩ : _ ∧ _ := ⟨hB.cell 0, hB.cell 1⟩
  simp only [List.getElem?_toArray, List.getElem?_cons_zero, List.getElem?_cons_succ] at a_0 a_1 b_0 b_1
  clear hA hB
  go_enter Tryz.func69, Tryz.ntmps69
  go_wp2_with fail
  refine wp_drew_tail 10 (by kernel_rfl) (by kernel_rfl) ?_
  simp only [List.take_succ_cons, List.take_zero, List.drop_succ_cons, List.drop_zero]
  repeat (go_big_quiet_step (exact cmp_q _ _ _ _))
  refine wpQuiet_nil ?_
  rintro w3 ⟨dq, rfl⟩
  go_wp2_with (go_at_call 59; (with_reducible refine Calls.mono (or2_s _ _ _) ?_); rintro r w4 ⟨rfl, rfl⟩)
  go_ret
  obtain ⟨os, hos⟩ := Hg.out
  refine ⟨rfl, dq, os.push (.cells #[.int .i64 (cmpI a1 b1), .int .i64 (cmpI a2 b2)] 3), ?_⟩
  subst hos
  simp [grow, World.alloc, World.drewN]
theorem call_HT (xs : Array Value) (w : World) : (callFunc 69 xs).run Tryz.prog w = .ok (.enter 69 xs) w := callOf Tryz.func69 rfl (by kernel_rfl) xs w
theorem sortHTs (v : Value) (M : List Hp) (B : Nat) (w : World) (hown : OwnH w B v M) (hlen : M.length ≤ 2 ^ 20) :
    Calls Tryz.prog 68 #[v, .func (.func 69) #[] #[]] w fun r w' => r = .returned (.tuple #[]) ∧ (∃ N, OwnH w' B v N ∧ N.Perm M ∧ N.Pairwise fun x y => ¬ ltH y x) ∧ w.grownBy w' v.ownBlock := by
  have h := sort_row Tryz.sortHop (C := 2) Tryz.isAgg95 Tryz.sizeOf95 Hp.cells (fun _ => rfl) onesHp cmpHp swoH 69 call_HT (fun x y w => hopCmpT_any x y w) v M B w hown hlen
  change Calls Tryz.prog 68 _ _ _ at h
  refine h.mono ?_
  rintro r w' ⟨rfl, N, hN, hpN, hsN, hg⟩
  exact ⟨rfl, ⟨N, hN, hpN, hsN.imp fun {x y} h => ltOf_H.2.1 h⟩, hg⟩
set_option maxHeartbeats 8000000 in
set_option maxRecDepth 100000 in
theorem end_any (g k cost n c : Nat) (A : Option Addr) (N : List Hp) (w : World) (B : Nat) (f : Nat → RtM) (X : List EndV) (hk : k < 4) (hc1 : 1 ≤ cost) (hc2 : cost ≤ 2 ^ 40) (hN : OwnH w B (.slice A n c) N) (hn : N.length = n) (hl : N.length ≤ 2 ^ 16)
    (hB : B ≤ w.heap.size) (hg : g < B) (h : NetsAt w B g f) (hX : NetOk k X (f k)) (hlow : (f k).next.length ≤ 64) (hcl : (f k).cost ≤ 2 ^ 40) :
    Calls Tryz.prog 29 #[.pointer (some ⟨g, 0, none⟩), .int .i64 k, .int .i64 cost, .slice A n c] w fun r w' => r = .returned (.tuple #[]) ∧ (∃ x', NetsAt w' B g (updN f k x') ∧ NetOk k (X ++ [(cost, N)]) x' ∧ x'.cost ≤ 2 ^ 40) ∧ w.grownBy w' (some g) := by
  have hki : (k : Int) < 4 := by omega
  have hci : 1 ≤ (cost : Int) := by omega
  have hci2 : (cost : Int) ≤ 1099511627776 := by omega
  have HNN := Lib.hid hN
  have Hn := Lib.hid hn
  have Hl := Lib.hid hl
  have HB := Lib.hid hB
  have Hg := Lib.hid hg
  have HX := Lib.hid hX
  have Hc1 := Lib.hid hc1
  have Hc2 := Lib.hid hc2
  have Hk := Lib.hid hk
  have H := Lib.hid h
  have Hlow := Lib.hid hlow
  have Hcl := Lib.hid hcl
  obtain ⟨z0, z1, z2, z3, y0, y1, y2, y3⟩ := h.cells hk
  obtain ⟨x, hx⟩ : ∃ x, f k = x := ⟨_, rfl⟩
  have Hx := Lib.hid hx
  rw [hx] at z0 z1 z2 z3
  obtain ⟨xk, xi, xc, xA, xcap, xn⟩ := x
  obtain ⟨nx, hnx⟩ : ∃ n, xn.length = n := ⟨_, rfl⟩
  simp only at z0 z1 z2 z3
  rw [hnx] at z3
  have Hnx := Lib.hid hnx
  have hxc : (xc : Int) ≤ 1099511627776 := by have := hcl; rw [hx] at this; simp only at this; omega
  have hxc0 : 0 ≤ (xc : Int) := by omega
  clear hN hn hl hB hg hX h hlow hcl hx hnx hk hc1 hc2
  go_enter Tryz.func29, Tryz.ntmps29
  by_cases hmore : 0 < xc ∧ xc < cost
  · have h1 : 0 < (xc : Int) := by omega
    have h2 : (xc : Int) < (cost : Int) := by omega
    go_wp2
    refine bodyPost_ret (results_none rfl _ _ _) rfl ?_
    refine ⟨rfl, ⟨f k, by rw [updN_self]; exact H.out, ?_, Hcl.out⟩, World.grownBy.refl _ _⟩
    rcases HX.out with ⟨-, -, e, -, -⟩ | ⟨e1, e2, e3, e4⟩
    · rw [Hx.out] at e; simp only at e; omega
    · exact .inr ⟨e1, e2, e3, EndsO.more (d := (f k).cost) e4 (by rw [Hx.out]; exact hmore.2)⟩
  · have hnot : ¬ (0 < (xc : Int) ∧ (xc : Int) < (cost : Int)) := by omega
    by_cases h0 : xc = 0
    · have hx0 : xc = 0 := by omega
      have HXn : Hid (X = []) := Lib.hid (by
        rcases HX.out with ⟨-, -, -, -, e⟩ | ⟨-, -, e, -⟩
        · exact e
        · rw [Hx.out] at e; simp only at e; omega)
      have hxi : ¬ 0 < (xc : Int) := by omega
      have hxe : ((xc : Int) == 0) = true := by simp [hx0]

      have hS4 := (H.out.but k).set4 Hg.out Hk.out ⟨2, k, cost, none, 0, []⟩
      have hG4 : w.grownBy ((((w.setCell ⟨g, k * 4, none⟩ (.int .i64 2)).setCell ⟨g, k * 4 + 1, none⟩ (.int .i64 k)).setCell ⟨g, k * 4 + 2, none⟩ (.int .i64 cost)).setCell ⟨g, k * 4 + 3, none⟩ (.slice none 0 0)) (some g) := ((((World.grownBy.refl w (some g)).set rfl _).set rfl _).set rfl _).set rfl _
      obtain ⟨wS, hwS⟩ : ∃ v, (((w.setCell ⟨g, k * 4, none⟩ (.int .i64 2)).setCell ⟨g, k * 4 + 1, none⟩ (.int .i64 k)).setCell ⟨g, k * 4 + 2, none⟩ (.int .i64 cost)).setCell ⟨g, k * 4 + 3, none⟩ (.slice none 0 0) = v := ⟨_, rfl⟩
      simp only [List.length_nil] at hS4
      rw [hwS] at hS4 hG4
      obtain ⟨A4, c4, m4, M4, hA4, hc4, hm4, hM4⟩ : ∃ (A4 : Option Addr) (c4 m4 : Nat) (M4 : List Hp), A4 = none ∧ c4 = 0 ∧ m4 = 0 ∧ M4 = [] := ⟨_, _, _, _, rfl, rfl, rfl, rfl⟩
      have hS4' : NetsBut wS B w.heap.size g (updN f k ⟨2, k, cost, A4, c4, M4⟩) k := by rw [hA4, hc4, hM4]; exact hS4
      have HS := Lib.hid hS4'
      have HGS := Lib.hid hG4
      have HNS := Lib.hid (HNN.out.past hG4 Hg.out)
      have HM4 : Hid (RowsH wS wS.heap.size A4 M4) := Lib.hid (by rw [hM4]; exact RowsAt.nil)
      have Hm4 : Hid (M4.length = m4) := Lib.hid (by rw [hM4, hm4]; rfl)
      have Hl4 : Hid (M4.length ≤ 64) := Lib.hid (by rw [hM4]; exact Nat.zero_le _)
      have HM4n := Lib.hid hM4
      have hz3 : (Value.slice none 0 0) = .slice A4 m4 c4 := by rw [hA4, hc4, hm4]
      clear hS4 hG4 hS4' hA4 hc4 hm4 hM4
      clear hx0 hnot h0

      -- the tail: what stands there and what comes, joined
      obtain ⟨dz0, dz1, dz2, dz3, dy0, dy1, dy2, dy3⟩ := HS.out.cells Hk.out
      rw [updN_at] at dz0 dz1 dz2 dz3
      simp only at dz0 dz1 dz2 dz3
      rw [Hm4.out] at dz3
      have hbB := below_new wS (.cells #[.slice A4 m4 c4, .slice A n c] 42)
      have hkB := Blk.new wS 42 #[.slice A4 m4 c4, .slice A n c]
      obtain ⟨wB, hwB⟩ : ∃ v, wS.alloc (.cells #[.slice A4 m4 c4, .slice A n c] 42) = v := ⟨_, rfl⟩
      obtain ⟨gB, hgB⟩ : ∃ v, wS.heap.size = v := ⟨_, rfl⟩
      rw [hwB, hgB] at hkB
      rw [hwB] at hbB
      have HSB := Lib.hid (HS.out.below hbB)
      have HGB := Lib.hid (grown_below HGS.out hbB)
      have HC := Lib.hid (concatHp A4 A c4 c M4 N gB wB m4 n Hm4.out.symm Hn.out.symm hkB ((HM4.out.below hbB).more hbB.size) (OwnR.rows (C := 2) (cells := Hp.cells) (fun _ => rfl) (HNS.out.below hbB)).2 (by have := Hl4.out; omega) (by have := Hl.out; omega))
      clear hbB hkB
      go_wp2_with fail
      with_reducible refine Calls.mono HC.out ?_
      clear z0 z1 z2 z3 y0 y1 y2 y3
      rintro r w5 ⟨v5, rfl, ho5, hb5⟩
      obtain ⟨A5, c5, hv5⟩ := ho5.shape
      subst hv5
      obtain ⟨L5, hL5⟩ : ∃ L, M4 ++ N = L := ⟨_, rfl⟩
      rw [hL5] at ho5 ⊢
      have HL5 := Lib.hid hL5
      have hl5 : L5.length ≤ 2 ^ 17 := by rw [← hL5, List.length_append]; have := Hl4.out; have := Hl.out; omega
      have Hl5 := Lib.hid hl5
      obtain ⟨n5, hn5⟩ : ∃ n, L5.length = n := ⟨_, rfl⟩
      rw [hn5] at ho5 ⊢
      have Hn5 := Lib.hid hn5
      have HS5 := HSB.out.below hb5
      have HG5 := Lib.hid (grown_below HGB.out hb5)
      have hwsz : w.heap.size ≤ wB.heap.size := HGB.out.size
      have hgw : g < wB.heap.size := Nat.lt_of_lt_of_le HS5.lt hwsz
      have hBw : B ≤ wB.heap.size := Nat.le_trans HB.out hwsz
      obtain ⟨ez0, ez1, ez2, ez3, ey0, ey1, ey2, ey3⟩ := HS5.cells Hk.out
      rw [updN_at] at ez0 ez1 ez2 ez3
      simp only at ez0 ez1 ez2 ez3
      rw [Hm4.out] at ez3
      have HS6 := HS5.set3 Hg.out Hk.out ⟨2, k, cost, A5, c5, L5⟩ (by rw [updN_at]) (by rw [updN_at]) (by rw [updN_at])
      rw [updN_twice] at HS6
      simp only at HS6
      rw [hn5] at HS6
      have ho6 := OwnR.set_ ho5 (p := ⟨g, k * 4 + 3, none⟩) hgw (.slice A5 n5 c5)
      have hg6 := grown_comp HG5.out (grown_setC w5 g (k * 4 + 3) (.slice A5 n5 c5)) (fun b e => .inr e)
      obtain ⟨w6, hw6⟩ : ∃ v, w5.setCell ⟨g, k * 4 + 3, none⟩ (.slice A5 n5 c5) = v := ⟨_, rfl⟩
      rw [hw6] at HS6 ho6 hg6
      have fz6 := HS6.cells Hk.out
      rw [updN_at] at fz6
      obtain ⟨-, -, -, fz3, -, -, -, -⟩ := fz6
      simp only at fz3
      rw [hn5] at fz3
      have HS6' := Lib.hid HS6
      have HO6 := Lib.hid ho6
      have HG6 := Lib.hid hg6
      have HBw := Lib.hid hBw
      have Hwsz := Lib.hid hwsz
      clear ho5 hb5 HS5 HS6 ho6 hg6 hl5 hn5 hL5 dz0 dz1 dz2 dz3 dy0 dy1 dy2 dy3 ez0 ez1 ez2 ey0 ey1 ey2 hwsz hgw hBw
      go_wp2_with fail
      with_reducible refine Calls.mono (sortHTs _ _ _ _ HO6.out (by have := Hl5.out; omega)) ?_
      clear ez3 ey3 fz3 hw6 hwB hgB
      rintro r w7 ⟨rfl, ⟨N7, hoN, hpN, hsN⟩, hg7⟩
      have hn7 : N7.length = n5 := by rw [hpN.length_eq]; exact Hn5.out
      have hbl : ∀ b, (Value.slice A5 n5 c5).ownBlock = some b → w.heap.size ≤ b := fun b hb => by have := (HO6.out.block b hb).1; have := Hwsz.out; omega
      have Hbl := Lib.hid hbl
      have HS7 := HS6'.out.grown hg7 hbl
      have HG7 := Lib.hid (grown_comp HG6.out hg7 (fun b e => .inl (hbl b e)))
      have HS7' := Lib.hid HS7
      have HO7 := Lib.hid hoN
      have Hp7 := Lib.hid hpN
      have Hs7 := Lib.hid hsN
      have Hn7 := Lib.hid hn7
      have fz7 := HS7.cells Hk.out
      rw [updN_at] at fz7
      obtain ⟨-, -, -, fz3, -, -, -, fy3⟩ := fz7
      simp only at fz3
      rw [Hn5.out] at fz3
      clear hoN hpN hsN hg7 hn7 hbl HS7 fy3
      go_wp2_with fail
      with_reducible refine Calls.mono (compactHp A5 c5 n5 N7 w7 wB.heap.size HO7.out Hn7.out.symm (by have := Hl5.out; have := Hn7.out; have := Hn5.out; omega)) ?_
      clear fz3
      rintro r w8 ⟨v8, rfl, ho8, hg8, hvb⟩
      obtain ⟨A8, c8, hv8⟩ := ho8.shape
      subst hv8
      have HS8 := HS7'.out.grown hg8 Hbl.out
      have HG8 := grown_comp HG7.out hg8 (fun b e => .inl (Hbl.out b e))
      have fz8 := HS8.cells Hk.out
      rw [updN_at] at fz8
      obtain ⟨-, -, -, fz3, -, -, -, fy3⟩ := fz8
      simp only at fz3
      rw [Hn5.out] at fz3
      have HS9 := HS8.set3 Hg.out Hk.out ⟨2, k, cost, A8, c8, cptL N7⟩ (by rw [updN_at]) (by rw [updN_at]) (by rw [updN_at])
      rw [updN_twice] at HS9
      have ho9 := OwnR.set_ ho8 (p := ⟨g, k * 4 + 3, none⟩) (Nat.lt_of_lt_of_le (Nat.lt_of_lt_of_le Hg.out (Nat.le_refl _)) HBw.out) (.slice A8 (cptL N7).length c8)
      have hg9 := grown_comp HG8 (grown_setC w8 g (k * 4 + 3) (.slice A8 (cptL N7).length c8)) (fun b e => .inr e)
      have hwh := HS9.whole (by rw [updN_at]; exact OwnR.lower ho9 HBw.out)
      have hj : JoinH M4 N (cptL N7) := join_cpt (fun x => by rw [Hp7.out.mem_iff, ← HL5.out, List.mem_append]) Hs7.out
      have he : EndsAt (X ++ [(cost, N)]) cost (cptL N7) := by have e := HXn.out; have e2 := HM4n.out; subst e e2; exact EndsO.first hj
      have Hwh := Lib.hid hwh
      have Hg9 := Lib.hid hg9
      have He := Lib.hid he
      clear hwh hg9 he hj ho9 HS9 HG8 HS8 ho8 hg8 hvb
      go_wp2
      refine bodyPost_end (results_none rfl _ _ _) rfl ?_
      exact ⟨rfl, ⟨_, Hwh.out, .inr ⟨rfl, rfl, Hc1.out, He.out⟩, Hc2.out⟩, Hg9.out⟩
    · by_cases hl' : cost < xc
      · have hxi : 0 < (xc : Int) := by omega
        have hxe : ((xc : Int) == 0) = false := by simp; omega
        have hxl : (cost : Int) < (xc : Int) := by omega
        have hxm : ¬ (xc : Int) < (cost : Int) := by omega
        have Hxl := Lib.hid hxl

        have hS4 := (H.out.but k).set4 Hg.out Hk.out ⟨2, k, cost, none, 0, []⟩
        have hG4 : w.grownBy ((((w.setCell ⟨g, k * 4, none⟩ (.int .i64 2)).setCell ⟨g, k * 4 + 1, none⟩ (.int .i64 k)).setCell ⟨g, k * 4 + 2, none⟩ (.int .i64 cost)).setCell ⟨g, k * 4 + 3, none⟩ (.slice none 0 0)) (some g) := ((((World.grownBy.refl w (some g)).set rfl _).set rfl _).set rfl _).set rfl _
        obtain ⟨wS, hwS⟩ : ∃ v, (((w.setCell ⟨g, k * 4, none⟩ (.int .i64 2)).setCell ⟨g, k * 4 + 1, none⟩ (.int .i64 k)).setCell ⟨g, k * 4 + 2, none⟩ (.int .i64 cost)).setCell ⟨g, k * 4 + 3, none⟩ (.slice none 0 0) = v := ⟨_, rfl⟩
        simp only [List.length_nil] at hS4
        rw [hwS] at hS4 hG4
        obtain ⟨A4, c4, m4, M4, hA4, hc4, hm4, hM4⟩ : ∃ (A4 : Option Addr) (c4 m4 : Nat) (M4 : List Hp), A4 = none ∧ c4 = 0 ∧ m4 = 0 ∧ M4 = [] := ⟨_, _, _, _, rfl, rfl, rfl, rfl⟩
        have hS4' : NetsBut wS B w.heap.size g (updN f k ⟨2, k, cost, A4, c4, M4⟩) k := by rw [hA4, hc4, hM4]; exact hS4
        have HS := Lib.hid hS4'
        have HGS := Lib.hid hG4
        have HNS := Lib.hid (HNN.out.past hG4 Hg.out)
        have HM4 : Hid (RowsH wS wS.heap.size A4 M4) := Lib.hid (by rw [hM4]; exact RowsAt.nil)
        have Hm4 : Hid (M4.length = m4) := Lib.hid (by rw [hM4, hm4]; rfl)
        have Hl4 : Hid (M4.length ≤ 64) := Lib.hid (by rw [hM4]; exact Nat.zero_le _)
        have HM4n := Lib.hid hM4
        have hz3 : (Value.slice none 0 0) = .slice A4 m4 c4 := by rw [hA4, hc4, hm4]
        clear hS4 hG4 hS4' hA4 hc4 hm4 hM4
        clear hnot h0

        -- the tail: what stands there and what comes, joined
        obtain ⟨dz0, dz1, dz2, dz3, dy0, dy1, dy2, dy3⟩ := HS.out.cells Hk.out
        rw [updN_at] at dz0 dz1 dz2 dz3
        simp only at dz0 dz1 dz2 dz3
        rw [Hm4.out] at dz3
        have hbB := below_new wS (.cells #[.slice A4 m4 c4, .slice A n c] 42)
        have hkB := Blk.new wS 42 #[.slice A4 m4 c4, .slice A n c]
        obtain ⟨wB, hwB⟩ : ∃ v, wS.alloc (.cells #[.slice A4 m4 c4, .slice A n c] 42) = v := ⟨_, rfl⟩
        obtain ⟨gB, hgB⟩ : ∃ v, wS.heap.size = v := ⟨_, rfl⟩
        rw [hwB, hgB] at hkB
        rw [hwB] at hbB
        have HSB := Lib.hid (HS.out.below hbB)
        have HGB := Lib.hid (grown_below HGS.out hbB)
        have HC := Lib.hid (concatHp A4 A c4 c M4 N gB wB m4 n Hm4.out.symm Hn.out.symm hkB ((HM4.out.below hbB).more hbB.size) (OwnR.rows (C := 2) (cells := Hp.cells) (fun _ => rfl) (HNS.out.below hbB)).2 (by have := Hl4.out; omega) (by have := Hl.out; omega))
        clear hbB hkB
        go_wp2_with fail
        with_reducible refine Calls.mono HC.out ?_
        clear z0 z1 z2 z3 y0 y1 y2 y3
        rintro r w5 ⟨v5, rfl, ho5, hb5⟩
        obtain ⟨A5, c5, hv5⟩ := ho5.shape
        subst hv5
        obtain ⟨L5, hL5⟩ : ∃ L, M4 ++ N = L := ⟨_, rfl⟩
        rw [hL5] at ho5 ⊢
        have HL5 := Lib.hid hL5
        have hl5 : L5.length ≤ 2 ^ 17 := by rw [← hL5, List.length_append]; have := Hl4.out; have := Hl.out; omega
        have Hl5 := Lib.hid hl5
        obtain ⟨n5, hn5⟩ : ∃ n, L5.length = n := ⟨_, rfl⟩
        rw [hn5] at ho5 ⊢
        have Hn5 := Lib.hid hn5
        have HS5 := HSB.out.below hb5
        have HG5 := Lib.hid (grown_below HGB.out hb5)
        have hwsz : w.heap.size ≤ wB.heap.size := HGB.out.size
        have hgw : g < wB.heap.size := Nat.lt_of_lt_of_le HS5.lt hwsz
        have hBw : B ≤ wB.heap.size := Nat.le_trans HB.out hwsz
        obtain ⟨ez0, ez1, ez2, ez3, ey0, ey1, ey2, ey3⟩ := HS5.cells Hk.out
        rw [updN_at] at ez0 ez1 ez2 ez3
        simp only at ez0 ez1 ez2 ez3
        rw [Hm4.out] at ez3
        have HS6 := HS5.set3 Hg.out Hk.out ⟨2, k, cost, A5, c5, L5⟩ (by rw [updN_at]) (by rw [updN_at]) (by rw [updN_at])
        rw [updN_twice] at HS6
        simp only at HS6
        rw [hn5] at HS6
        have ho6 := OwnR.set_ ho5 (p := ⟨g, k * 4 + 3, none⟩) hgw (.slice A5 n5 c5)
        have hg6 := grown_comp HG5.out (grown_setC w5 g (k * 4 + 3) (.slice A5 n5 c5)) (fun b e => .inr e)
        obtain ⟨w6, hw6⟩ : ∃ v, w5.setCell ⟨g, k * 4 + 3, none⟩ (.slice A5 n5 c5) = v := ⟨_, rfl⟩
        rw [hw6] at HS6 ho6 hg6
        have fz6 := HS6.cells Hk.out
        rw [updN_at] at fz6
        obtain ⟨-, -, -, fz3, -, -, -, -⟩ := fz6
        simp only at fz3
        rw [hn5] at fz3
        have HS6' := Lib.hid HS6
        have HO6 := Lib.hid ho6
        have HG6 := Lib.hid hg6
        have HBw := Lib.hid hBw
        have Hwsz := Lib.hid hwsz
        clear ho5 hb5 HS5 HS6 ho6 hg6 hl5 hn5 hL5 dz0 dz1 dz2 dz3 dy0 dy1 dy2 dy3 ez0 ez1 ez2 ey0 ey1 ey2 hwsz hgw hBw
        go_wp2_with fail
        with_reducible refine Calls.mono (sortHTs _ _ _ _ HO6.out (by have := Hl5.out; omega)) ?_
        clear ez3 ey3 fz3 hw6 hwB hgB
        rintro r w7 ⟨rfl, ⟨N7, hoN, hpN, hsN⟩, hg7⟩
        have hn7 : N7.length = n5 := by rw [hpN.length_eq]; exact Hn5.out
        have hbl : ∀ b, (Value.slice A5 n5 c5).ownBlock = some b → w.heap.size ≤ b := fun b hb => by have := (HO6.out.block b hb).1; have := Hwsz.out; omega
        have Hbl := Lib.hid hbl
        have HS7 := HS6'.out.grown hg7 hbl
        have HG7 := Lib.hid (grown_comp HG6.out hg7 (fun b e => .inl (hbl b e)))
        have HS7' := Lib.hid HS7
        have HO7 := Lib.hid hoN
        have Hp7 := Lib.hid hpN
        have Hs7 := Lib.hid hsN
        have Hn7 := Lib.hid hn7
        have fz7 := HS7.cells Hk.out
        rw [updN_at] at fz7
        obtain ⟨-, -, -, fz3, -, -, -, fy3⟩ := fz7
        simp only at fz3
        rw [Hn5.out] at fz3
        clear hoN hpN hsN hg7 hn7 hbl HS7 fy3
        go_wp2_with fail
        with_reducible refine Calls.mono (compactHp A5 c5 n5 N7 w7 wB.heap.size HO7.out Hn7.out.symm (by have := Hl5.out; have := Hn7.out; have := Hn5.out; omega)) ?_
        clear fz3
        rintro r w8 ⟨v8, rfl, ho8, hg8, hvb⟩
        obtain ⟨A8, c8, hv8⟩ := ho8.shape
        subst hv8
        have HS8 := HS7'.out.grown hg8 Hbl.out
        have HG8 := grown_comp HG7.out hg8 (fun b e => .inl (Hbl.out b e))
        have fz8 := HS8.cells Hk.out
        rw [updN_at] at fz8
        obtain ⟨-, -, -, fz3, -, -, -, fy3⟩ := fz8
        simp only at fz3
        rw [Hn5.out] at fz3
        have HS9 := HS8.set3 Hg.out Hk.out ⟨2, k, cost, A8, c8, cptL N7⟩ (by rw [updN_at]) (by rw [updN_at]) (by rw [updN_at])
        rw [updN_twice] at HS9
        have ho9 := OwnR.set_ ho8 (p := ⟨g, k * 4 + 3, none⟩) (Nat.lt_of_lt_of_le (Nat.lt_of_lt_of_le Hg.out (Nat.le_refl _)) HBw.out) (.slice A8 (cptL N7).length c8)
        have hg9 := grown_comp HG8 (grown_setC w8 g (k * 4 + 3) (.slice A8 (cptL N7).length c8)) (fun b e => .inr e)
        have hwh := HS9.whole (by rw [updN_at]; exact OwnR.lower ho9 HBw.out)
        have hj : JoinH M4 N (cptL N7) := join_cpt (fun x => by rw [Hp7.out.mem_iff, ← HL5.out, List.mem_append]) Hs7.out
        have he : EndsAt (X ++ [(cost, N)]) cost (cptL N7) := by
          have e2 := HM4n.out
          subst e2
          rcases HX.out with ⟨-, -, e, -, -⟩ | ⟨e1, e2, e3, e4⟩
          · rw [Hx.out] at e; simp only at e; have := Hxl.out; omega
          · exact EndsO.less (d := (f k).cost) e4 (by rw [Hx.out]; have := Hxl.out; simp only; omega) hj
        have Hwh := Lib.hid hwh
        have Hg9 := Lib.hid hg9
        have He := Lib.hid he
        clear hwh hg9 he hj ho9 HS9 HG8 HS8 ho8 hg8 hvb
        go_wp2
        refine bodyPost_end (results_none rfl _ _ _) rfl ?_
        exact ⟨rfl, ⟨_, Hwh.out, .inr ⟨rfl, rfl, Hc1.out, He.out⟩, Hc2.out⟩, Hg9.out⟩
      · have hsame : xc = cost := by omega
        have hxi : 0 < (xc : Int) := by omega
        have hxe : ((xc : Int) == 0) = false := by simp; omega
        have hxl : ¬ (cost : Int) < (xc : Int) := by omega
        have hxm : ¬ (xc : Int) < (cost : Int) := by omega

        have HS : Hid (NetsBut w B w.heap.size g (updN f k ⟨2, k, cost, xA, xcap, xn⟩) k) := Lib.hid (by
          have e : f k = ⟨2, (k : Int), cost, xA, xcap, xn⟩ := by
            rcases HX.out with ⟨-, -, e, -, -⟩ | ⟨e1, e2, e3, e4⟩
            · rw [Hx.out] at e; simp only at e; omega
            · rw [Hx.out] at e1 e2 ⊢; simp only at e1 e2; rw [e1, e2, hsame]
          rw [← e, updN_self]
          exact H.out.but k)
        have HGS := Lib.hid (World.grownBy.refl w (some g))
        have HNS := HNN
        obtain ⟨A4, hA4⟩ : ∃ a, a = xA := ⟨_, rfl⟩
        obtain ⟨c4, hc4⟩ : ∃ a, a = xcap := ⟨_, rfl⟩
        obtain ⟨m4, hm4⟩ : ∃ a, a = nx := ⟨_, rfl⟩
        obtain ⟨M4, hM4⟩ : ∃ a, a = xn := ⟨_, rfl⟩
        have HM4 : Hid (RowsH w w.heap.size A4 M4) := Lib.hid (by
          have h := (OwnR.rows (C := 2) (cells := Hp.cells) (fun _ => rfl) (H.out.own k Hk.out)).2
          rw [Hx.out] at h
          rw [hA4, hM4]
          exact h)
        have Hm4 : Hid (M4.length = m4) := Lib.hid (by rw [hM4, hm4]; exact Hnx.out)
        have Hl4 : Hid (M4.length ≤ 64) := Lib.hid (by rw [hM4]; have := Hlow.out; rw [Hx.out] at this; exact this)
        have HE4 : Hid (EndsAt X cost M4) := Lib.hid (by
          rcases HX.out with ⟨-, -, e, -, -⟩ | ⟨e1, e2, e3, e4⟩
          · rw [Hx.out] at e; simp only at e; omega
          · rw [Hx.out] at e4; simp only at e4; rw [hsame] at e4; rw [hM4]; exact e4)
        subst hA4 hc4 hm4 hM4
        clear hnot h0 hsame

        -- the tail: what stands there and what comes, joined
        obtain ⟨dz0, dz1, dz2, dz3, dy0, dy1, dy2, dy3⟩ := HS.out.cells Hk.out
        rw [updN_at] at dz0 dz1 dz2 dz3
        simp only at dz0 dz1 dz2 dz3
        rw [Hm4.out] at dz3
        have hbB := below_new w (.cells #[.slice A4 m4 c4, .slice A n c] 42)
        have hkB := Blk.new w 42 #[.slice A4 m4 c4, .slice A n c]
        obtain ⟨wB, hwB⟩ : ∃ v, w.alloc (.cells #[.slice A4 m4 c4, .slice A n c] 42) = v := ⟨_, rfl⟩
        obtain ⟨gB, hgB⟩ : ∃ v, w.heap.size = v := ⟨_, rfl⟩
        rw [hwB, hgB] at hkB
        rw [hwB] at hbB
        have HSB := Lib.hid (HS.out.below hbB)
        have HGB := Lib.hid (grown_below HGS.out hbB)
        have HC := Lib.hid (concatHp A4 A c4 c M4 N gB wB m4 n Hm4.out.symm Hn.out.symm hkB ((HM4.out.below hbB).more hbB.size) (OwnR.rows (C := 2) (cells := Hp.cells) (fun _ => rfl) (HNS.out.below hbB)).2 (by have := Hl4.out; omega) (by have := Hl.out; omega))
        clear hbB hkB
        go_wp2_with fail
        with_reducible refine Calls.mono HC.out ?_
        clear z0 z1 z2 z3 y0 y1 y2 y3
        rintro r w5 ⟨v5, rfl, ho5, hb5⟩
        obtain ⟨A5, c5, hv5⟩ := ho5.shape
        subst hv5
        obtain ⟨L5, hL5⟩ : ∃ L, M4 ++ N = L := ⟨_, rfl⟩
        rw [hL5] at ho5 ⊢
        have HL5 := Lib.hid hL5
        have hl5 : L5.length ≤ 2 ^ 17 := by rw [← hL5, List.length_append]; have := Hl4.out; have := Hl.out; omega
        have Hl5 := Lib.hid hl5
        obtain ⟨n5, hn5⟩ : ∃ n, L5.length = n := ⟨_, rfl⟩
        rw [hn5] at ho5 ⊢
        have Hn5 := Lib.hid hn5
        have HS5 := HSB.out.below hb5
        have HG5 := Lib.hid (grown_below HGB.out hb5)
        have hwsz : w.heap.size ≤ wB.heap.size := HGB.out.size
        have hgw : g < wB.heap.size := Nat.lt_of_lt_of_le HS5.lt hwsz
        have hBw : B ≤ wB.heap.size := Nat.le_trans HB.out hwsz
        obtain ⟨ez0, ez1, ez2, ez3, ey0, ey1, ey2, ey3⟩ := HS5.cells Hk.out
        rw [updN_at] at ez0 ez1 ez2 ez3
        simp only at ez0 ez1 ez2 ez3
        rw [Hm4.out] at ez3
        have HS6 := HS5.set3 Hg.out Hk.out ⟨2, k, cost, A5, c5, L5⟩ (by rw [updN_at]) (by rw [updN_at]) (by rw [updN_at])
        rw [updN_twice] at HS6
        simp only at HS6
        rw [hn5] at HS6
        have ho6 := OwnR.set_ ho5 (p := ⟨g, k * 4 + 3, none⟩) hgw (.slice A5 n5 c5)
        have hg6 := grown_comp HG5.out (grown_setC w5 g (k * 4 + 3) (.slice A5 n5 c5)) (fun b e => .inr e)
        obtain ⟨w6, hw6⟩ : ∃ v, w5.setCell ⟨g, k * 4 + 3, none⟩ (.slice A5 n5 c5) = v := ⟨_, rfl⟩
        rw [hw6] at HS6 ho6 hg6
        have fz6 := HS6.cells Hk.out
        rw [updN_at] at fz6
        obtain ⟨-, -, -, fz3, -, -, -, -⟩ := fz6
        simp only at fz3
        rw [hn5] at fz3
        have HS6' := Lib.hid HS6
        have HO6 := Lib.hid ho6
        have HG6 := Lib.hid hg6
        have HBw := Lib.hid hBw
        have Hwsz := Lib.hid hwsz
        clear ho5 hb5 HS5 HS6 ho6 hg6 hl5 hn5 hL5 dz0 dz1 dz2 dz3 dy0 dy1 dy2 dy3 ez0 ez1 ez2 ey0 ey1 ey2 hwsz hgw hBw
        go_wp2_with fail
        with_reducible refine Calls.mono (sortHTs _ _ _ _ HO6.out (by have := Hl5.out; omega)) ?_
        clear ez3 ey3 fz3 hw6 hwB hgB
        rintro r w7 ⟨rfl, ⟨N7, hoN, hpN, hsN⟩, hg7⟩
        have hn7 : N7.length = n5 := by rw [hpN.length_eq]; exact Hn5.out
        have hbl : ∀ b, (Value.slice A5 n5 c5).ownBlock = some b → w.heap.size ≤ b := fun b hb => by have := (HO6.out.block b hb).1; have := Hwsz.out; omega
        have Hbl := Lib.hid hbl
        have HS7 := HS6'.out.grown hg7 hbl
        have HG7 := Lib.hid (grown_comp HG6.out hg7 (fun b e => .inl (hbl b e)))
        have HS7' := Lib.hid HS7
        have HO7 := Lib.hid hoN
        have Hp7 := Lib.hid hpN
        have Hs7 := Lib.hid hsN
        have Hn7 := Lib.hid hn7
        have fz7 := HS7.cells Hk.out
        rw [updN_at] at fz7
        obtain ⟨-, -, -, fz3, -, -, -, fy3⟩ := fz7
        simp only at fz3
        rw [Hn5.out] at fz3
        clear hoN hpN hsN hg7 hn7 hbl HS7 fy3
        go_wp2_with fail
        with_reducible refine Calls.mono (compactHp A5 c5 n5 N7 w7 wB.heap.size HO7.out Hn7.out.symm (by have := Hl5.out; have := Hn7.out; have := Hn5.out; omega)) ?_
        clear fz3
        rintro r w8 ⟨v8, rfl, ho8, hg8, hvb⟩
        obtain ⟨A8, c8, hv8⟩ := ho8.shape
        subst hv8
        have HS8 := HS7'.out.grown hg8 Hbl.out
        have HG8 := grown_comp HG7.out hg8 (fun b e => .inl (Hbl.out b e))
        have fz8 := HS8.cells Hk.out
        rw [updN_at] at fz8
        obtain ⟨-, -, -, fz3, -, -, -, fy3⟩ := fz8
        simp only at fz3
        rw [Hn5.out] at fz3
        have HS9 := HS8.set3 Hg.out Hk.out ⟨2, k, cost, A8, c8, cptL N7⟩ (by rw [updN_at]) (by rw [updN_at]) (by rw [updN_at])
        rw [updN_twice] at HS9
        have ho9 := OwnR.set_ ho8 (p := ⟨g, k * 4 + 3, none⟩) (Nat.lt_of_lt_of_le (Nat.lt_of_lt_of_le Hg.out (Nat.le_refl _)) HBw.out) (.slice A8 (cptL N7).length c8)
        have hg9 := grown_comp HG8 (grown_setC w8 g (k * 4 + 3) (.slice A8 (cptL N7).length c8)) (fun b e => .inr e)
        have hwh := HS9.whole (by rw [updN_at]; exact OwnR.lower ho9 HBw.out)
        have hj : JoinH M4 N (cptL N7) := join_cpt (fun x => by rw [Hp7.out.mem_iff, ← HL5.out, List.mem_append]) Hs7.out
        have he : EndsAt (X ++ [(cost, N)]) cost (cptL N7) := EndsO.same HE4.out hj
        have Hwh := Lib.hid hwh
        have Hg9 := Lib.hid hg9
        have He := Lib.hid he
        clear hwh hg9 he hj ho9 HS9 HG8 HS8 ho8 hg8 hvb
        go_wp2
        refine bodyPost_end (results_none rfl _ _ _) rfl ?_
        exact ⟨rfl, ⟨_, Hwh.out, .inr ⟨rfl, rfl, Hc1.out, He.out⟩, Hc2.out⟩, Hg9.out⟩

end Go.Proofs.YtpnbibokddhheaaGreat

/-
  Layer 21: the node of a vertex; nodes read; nodes that are alike.
-/
namespace Go.Proofs.YtpnbibokddhheaaGreat
open Go.RowKit Go.Sort

/-- nodes that can be read -/
structure NodesIn (w : World) (B : Nat) (A : Option Addr) (N : List NodeM) : Prop where
  rows : RowsAt 5 NodeM.cells w B A N
  each : ∀ x ∈ N, RowsH w B x.A x.next
  low : ∀ x ∈ N, x.next.length ≤ 2 ^ 16
theorem NodesIn.below {w w' : World} {B : Nat} {A : Option Addr} {N : List NodeM} (h : NodesIn w B A N) (hb : Below B w w') : NodesIn w' B A N := ⟨h.rows.below hb, fun x hx => (h.each x hx).below hb, h.low⟩
theorem NodesIn.more {w : World} {B B' : Nat} {A : Option Addr} {N : List NodeM} (h : NodesIn w B A N) (hb : B ≤ B') : NodesIn w B' A N := ⟨h.rows.more hb, fun x hx => (h.each x hx).more hb, h.low⟩
theorem row_nd {w : World} {B : Nat} {A : Option Addr} {l : List NodeM} (h : RowsAt 5 NodeM.cells w B A l) (k : Nat) (hk : k < l.length) :
    ∃ b o, A = some ⟨b, o, none⟩ ∧ b < B ∧ w.cell? ⟨b, o + k * 5, none⟩ = some (.int .i64 l[k].v.kind) ∧ w.cell? ⟨b, o + k * 5 + 1, none⟩ = some (.int .i64 l[k].v.id) ∧ w.cell? ⟨b, o + k * 5 + 2, none⟩ = some (.int .i64 l[k].a.c) ∧ w.cell? ⟨b, o + k * 5 + 3, none⟩ = some (.int .i64 l[k].a.h) ∧ w.cell? ⟨b, o + k * 5 + 4, none⟩ = some (.slice l[k].A l[k].next.length l[k].c) := by
  obtain ⟨b, o, e, hb, hc⟩ := h (by omega)
  exact ⟨b, o, e, hb, by simpa using hc k hk 0 _ (by omega) rfl, hc k hk 1 _ (by omega) rfl, hc k hk 2 _ (by omega) rfl, hc k hk 3 _ (by omega) rfl, hc k hk 4 _ (by omega) rfl⟩
def findN (N : List NodeM) (v : Vx) : Option Nk := (N.map NodeM.nk).find? fun n => decide (n.v = v)
theorem findN_at {N : List NodeM} {v : Vx} {k : Nat} (hk : k < N.length) (h : ∀ p ∈ N.take k, p.v ≠ v) (he : N[k].v = v) : findN N v = some N[k].nk := by
  unfold findN
  have h1 : N = N.take k ++ N[k] :: N.drop (k + 1) := by rw [← List.drop_eq_getElem_cons hk, List.take_append_drop]
  have h2 : (N.map NodeM.nk) = (N.take k).map NodeM.nk ++ N[k].nk :: (N.drop (k + 1)).map NodeM.nk := by
    conv => lhs; rw [h1]
    rw [List.map_append, List.map_cons]
  rw [h2, List.find?_append]
  have h3 : ((N.take k).map NodeM.nk).find? (fun n => decide (n.v = v)) = none := by
    rw [List.find?_eq_none]
    intro n hn
    obtain ⟨x, hx, rfl⟩ := List.mem_map.1 hn
    exact fun e => h x hx (of_decide_eq_true e)
  rw [h3, Option.none_or, List.find?_cons, show decide (N[k].nk.v = v) = true from decide_eq_true he]
theorem findN_not {N : List NodeM} {v : Vx} (h : ∀ p ∈ N, p.v ≠ v) : findN N v = none := by
  unfold findN
  rw [List.find?_eq_none]
  intro n hn
  obtain ⟨x, hx, rfl⟩ := List.mem_map.1 hn
  exact fun e => h x hx (of_decide_eq_true e)
theorem blk5 {w : World} {g : Nat} {t : TypeId} {a b c d e : Value} (h : Blk w g t #[a, b, c, d, e]) : (w.cell? ⟨g, 0, none⟩ = some a ∧ w.cell? ⟨g, 1, none⟩ = some b ∧ w.cell? ⟨g, 2, none⟩ = some c ∧ w.cell? ⟨g, 3, none⟩ = some d ∧ w.cell? ⟨g, 4, none⟩ = some e) ∧ (w.frozen? ⟨g, 0, none⟩ = false ∧ w.frozen? ⟨g, 1, none⟩ = false ∧ w.frozen? ⟨g, 2, none⟩ = false ∧ w.frozen? ⟨g, 3, none⟩ = false ∧ w.frozen? ⟨g, 4, none⟩ = false) :=
  ⟨⟨h.cell 0, h.cell 1, h.cell 2, h.cell 3, h.cell 4⟩, h.frozen 0, h.frozen 1, h.frozen 2, h.frozen 3, h.frozen 4⟩
theorem Blk.put5 {w : World} {g : Nat} {t : TypeId} {a b c d e : Value} (h : Blk w g t #[a, b, c, d, e]) (a' b' c' d' e' : Value) : Blk (((((w.setCell ⟨g, 0, none⟩ a').setCell ⟨g, 1, none⟩ b').setCell ⟨g, 2, none⟩ c').setCell ⟨g, 3, none⟩ d').setCell ⟨g, 4, none⟩ e') g t #[a', b', c', d', e'] :=
  (((((h.set_ 0 a').set_ 1 b').set_ 2 c').set_ 3 d').set_ 4 e').to (by simp)
theorem below_put5 {B : Nat} {w w' : World} {g : Nat} (h : Below B w w') (hg : B ≤ g) (a b c d e : Value) : Below B w (((((w'.setCell ⟨g, 0, none⟩ a).setCell ⟨g, 1, none⟩ b).setCell ⟨g, 2, none⟩ c).setCell ⟨g, 3, none⟩ d).setCell ⟨g, 4, none⟩ e) :=
  ((((h.setCell (p := ⟨g, 0, none⟩) hg _).setCell (p := ⟨g, 1, none⟩) hg _).setCell (p := ⟨g, 2, none⟩) hg _).setCell (p := ⟨g, 3, none⟩) hg _).setCell (p := ⟨g, 4, none⟩) hg _
/-- what is said of a node that was looked for -/
def FoundN (N : List NodeM) (v : Vx) (w' : World) (B : Nat) (r : Ending) : Prop :=
  (∃ (x : Nk) (A' : Option Addr) (c' : Nat), findN N v = some x ∧ r = .returned (.tuple #[.agg #[.int .i64 x.v.kind, .int .i64 x.v.id, .int .i64 x.a.c, .int .i64 x.a.h, .slice A' x.next.length c'], .bool true]) ∧ OwnH w' B (.slice A' x.next.length c') x.next) ∨
  (findN N v = none ∧ r = .returned (.tuple #[.agg #[.int .i64 0, .int .i64 0, .int .i64 0, .int .i64 0, .slice none 0 0], .bool false]))
set_option maxHeartbeats 8000000 in
set_option maxRecDepth 100000 in
theorem Find_any (v1 v2 : Int) (A : Option Addr) (cap n : Nat) (N : List NodeM) (w : World) (hN : NodesIn w w.heap.size A N) (hlen : N.length ≤ 2 ^ 20) (hn : n = N.length) :
    Calls Tryz.prog 32 #[.agg #[.int .i64 v1, .int .i64 v2], .slice A n cap] w fun r w' => FoundN N ⟨v1, v2⟩ w' w.heap.size r ∧ Below w.heap.size w w' := by
  subst hn
  obtain ⟨w0, hw0⟩ : ∃ w0, (w.alloc (.cells #[.int .i64 v1, .int .i64 v2] 39)).alloc (.cells #[.int .i64 0, .int .i64 0, .int .i64 0, .int .i64 0, .slice none 0 0] 90) = w0 := ⟨_, rfl⟩
  have hb0 : Below w.heap.size w w0 := by rw [← hw0]; exact ((Below.refl _ _).alloc (Nat.le_refl _) _).alloc (by simp) _
  have hk2 : Blk w0 w.heap.size 39 #[.int .i64 v1, .int .i64 v2] := by rw [← hw0]; exact (Blk.new w _ _).alloc _
  have hk4 : Blk w0 (w.heap.size + 1) 90 #[.int .i64 0, .int .i64 0, .int .i64 0, .int .i64 0, .slice none 0 0] := by rw [← hw0]; exact Blk.size (by simp)
  have HN := Lib.hid hN
  have Hb0 := Lib.hid hb0
  have Hk2 := Lib.hid hk2
  have Hk4 := Lib.hid hk4
  have hli : (N.length : Int) ≤ 1048576 := by omega
  clear hN hlen hb0 hk2 hk4
  go_enter Tryz.func32, Tryz.ntmps32
  go_wp2
  clear hw0
  go_loopw [10] (fun i wr => ∃ k : Nat, i = .int .i64 k ∧ k ≤ N.length ∧ (∀ p ∈ N.take k, p.v ≠ ⟨v1, v2⟩) ∧ Below w0.heap.size w0 wr) (fun i _ => N.length - (intOf i).toNat)
  case atStart => exact ⟨0, rfl, Nat.zero_le _, by simp, Below.refl _ _⟩
  case round =>
    obtain ⟨k, rfl, hk, h0, hb⟩ := hrel
    have hNr := (HN.out.below (below_trans Hb0.out Hb0.out.size hb)).more (below_trans Hb0.out Hb0.out.size hb).size
    have hk2r := Hk2.out.below hb Hk2.out.lt
    have hk4r := Hk4.out.below hb Hk4.out.lt
    by_cases hlt : k < N.length
    · have hki : (k : Int) < (N.length : Int) := by omega
      obtain ⟨g, o, hA, -, x0, x1, x2, x3, x4⟩ := row_nd hNr.rows k hlt
      subst hA
      have hat := fun he => findN_at hlt h0 (v := ⟨v1, v2⟩) he
      have hrw := hNr.each _ (List.getElem_mem hlt)
      have hlw := hNr.low _ (List.getElem_mem hlt)
      have hmore : N[k].v ≠ ⟨v1, v2⟩ → ∀ p ∈ N.take (k + 1), p.v ≠ ⟨v1, v2⟩ := by
        intro he p hp
        rw [List.take_succ_eq_append_getElem hlt, List.mem_append, List.mem_singleton] at hp
        rcases hp with hp | rfl
        · exact h0 p hp
        · exact he
      generalize N[k] = x at *
      obtain ⟨⟨xk, xi⟩, ⟨xa, xh⟩, xA, xc, xn⟩ := x
      simp only at x0 x1 x2 x3 x4 hrw hlw hat hmore
      obtain ⟨nl, hnl⟩ : ∃ n, xn.length = n := ⟨_, rfl⟩
      rw [hnl] at x4 hlw
      have hb6 := below_new wr (.cells #[.int .i64 xk, .int .i64 xi, .int .i64 xa, .int .i64 xh, .slice xA nl xc] 90)
      have hk6 := Blk.new wr 90 #[.int .i64 xk, .int .i64 xi, .int .i64 xa, .int .i64 xh, .slice xA nl xc]
      obtain ⟨w6, hw6⟩ : ∃ w6, wr.alloc (.cells #[.int .i64 xk, .int .i64 xi, .int .i64 xa, .int .i64 xh, .slice xA nl xc] 90) = w6 := ⟨_, rfl⟩
      rw [hw6] at hb6 hk6
      have Hb6 := Lib.hid (below_trans hb hb.size hb6)
      have Hk6 := Lib.hid hk6
      have Hk26 := Lib.hid (hk2r.below hb6 hk2r.lt)
      have Hk46 := Lib.hid (hk4r.below hb6 hk4r.lt)
      have HCl := Lib.hid (cloneHp xA xc xn w6 w6.heap.size ((hrw.below hb6).more hb6.size) (Nat.le_refl _) (by omega) nl hnl.symm)
      have Hlt := Lib.hid hlt
      have Hat := Lib.hid hat
      have Hmore := Lib.hid hmore
      have Hnl := Lib.hid hnl
      have Hs6 := Lib.hid (show w0.heap.size ≤ wr.heap.size from hb.size)
      obtain ⟨⟨z0, z1, z2, z3, z4⟩, zf0, zf1, zf2, zf3, zf4⟩ := blk5 hk6
      obtain ⟨v0, v1', -, -⟩ := Hk26.out.cells2
      have heq := fun w => eqVxN xk xi v1 v2 w
      clear hNr hk2r hk4r h0 hb hrw hlw hat hmore hb6 hk6 hlt hk hnl
      by_cases he : (⟨xk, xi⟩ : Vx) = ⟨v1, v2⟩
      · rw [decide_eq_true he] at heq
        have He := Lib.hid (Hat.out he)
        clear he
        go_wp2_with fail
        clear x0 x1 x2 x3 x4 heq
        with_reducible refine Calls.mono HCl.out ?_
        rintro r w7 ⟨v, rfl, ho, hb7⟩
        obtain ⟨A9, c9, hv⟩ := ho.shape
        subst hv
        rw [Hnl.out] at ho ⊢
        have Ho := Lib.hid ho
        have Hb7 := Lib.hid (below_trans Hb6.out Hb6.out.size hb7)
        have Hk7 := Lib.hid (Hk6.out.below hb7 Hk6.out.lt)
        have Hk47 := Lib.hid (Hk46.out.below hb7 Hk46.out.lt)
        have Hs7 := Lib.hid (show w6.heap.size ≤ w7.heap.size from hb7.size)
        clear z0 z1 z2 z3 z4 zf0 zf1 zf2 zf3 zf4 v0 v1' ho hb7 hw6
        obtain ⟨⟨z0, z1, z2, z3, z4⟩, zf0, zf1, zf2, zf3, zf4⟩ := blk5 Hk7.out
        obtain ⟨w8, hw8⟩ : ∃ w8, w7.setCell ⟨wr.heap.size, 4, none⟩ (.slice A9 nl c9) = w8 := ⟨_, rfl⟩
        have hk8 := (Hk7.out.set_ 4 (.slice A9 nl c9)).to (cs' := #[.int .i64 xk, .int .i64 xi, .int .i64 xa, .int .i64 xh, .slice A9 nl c9]) (by simp)
        have hne : w.heap.size + 1 ≠ wr.heap.size := by have := Hk4.out.lt; have := Hs6.out; omega
        have hk48 := Hk47.out.far (p := ⟨wr.heap.size, 4, none⟩) hne (.slice A9 nl c9)
        have ho8 := OwnR.far Ho.out (p := ⟨wr.heap.size, 4, none⟩) (fun e => by have := (Ho.out.block _ e).1; have := Hk6.out.lt; simp only at *; omega) (.slice A9 nl c9)
        have hb8 := Hb7.out.setCell (p := ⟨wr.heap.size, 4, none⟩) Hs6.out (.slice A9 nl c9)
        rw [hw8] at hk8 hk48 ho8 hb8
        obtain ⟨⟨q0, q1, q2, q3, q4⟩, -⟩ := blk5 hk8
        obtain ⟨⟨y0, y1, y2, y3, y4⟩, yf0, yf1, yf2, yf3, yf4⟩ := blk5 hk48
        have Hk48 := Lib.hid hk48
        have Ho8 := Lib.hid ho8
        have Hb8 := Lib.hid hb8
        clear hk8 hk48 ho8 hb8 hne
        go_wp2
        refine bodyPost_named (v := .tuple #[.agg #[.int .i64 xk, .int .i64 xi, .int .i64 xa, .int .i64 xh, .slice A9 nl c9], .bool true]) (fun W => Blk W (w.heap.size + 1) 90 #[.int .i64 xk, .int .i64 xi, .int .i64 xa, .int .i64 xh, .slice A9 nl c9]) (Blk.put5 Hk48.out _ _ _ _ _) (fun W hB => by
          obtain ⟨⟨e0, e1, e2, e3, e4⟩, -⟩ := blk5 hB
          simp [results, Tryz.results32, go_sem, e0, e1, e2, e3, e4]) rfl ?_
        have hlt4 : w.heap.size + 1 < w6.heap.size := by have := Hk46.out.lt; exact this
        refine ⟨.inl ⟨⟨⟨xk, xi⟩, ⟨xa, xh⟩, xn⟩, A9, c9, He.out, by simp only; rw [Hnl.out], ?_⟩, below_put5 (below_trans Hb0.out Hb0.out.size Hb8.out) (by omega) _ _ _ _ _⟩
        simp only
        rw [Hnl.out]
        exact (((((Ho8.out.set_ (p := ⟨w.heap.size + 1, 0, none⟩) hlt4 _).set_ (p := ⟨w.heap.size + 1, 1, none⟩) hlt4 _).set_ (p := ⟨w.heap.size + 1, 2, none⟩) hlt4 _).set_ (p := ⟨w.heap.size + 1, 3, none⟩) hlt4 _).set_ (p := ⟨w.heap.size + 1, 4, none⟩) hlt4 _).lower (Nat.le_trans (by omega) (Nat.le_of_lt hlt4))
      · rw [decide_eq_false he] at heq
        have Hm := Lib.hid (Hmore.out he)
        clear he
        go_wp2
        go_roundw
        case measure => have := Hlt.out; simp [intOf]; omega
        case rel => exact ⟨k + 1, by go_num, Hlt.out, Hm.out, Hb6.out⟩
    · have hke : k = N.length := by omega
      subst hke
      have hkk : ¬ (N.length : Int) < (N.length : Int) := by omega
      rw [List.take_length] at h0
      have Hno := Lib.hid (findN_not h0)
      have Hk4r := Lib.hid hk4r
      have Hb := Lib.hid hb
      obtain ⟨⟨y0, y1, y2, y3, y4⟩, yf0, yf1, yf2, yf3, yf4⟩ := blk5 hk4r
      clear hNr hk2r hk4r h0 hb hlt hk
      go_wp2
      refine bodyPost_named (v := .tuple #[.agg #[.int .i64 0, .int .i64 0, .int .i64 0, .int .i64 0, .slice none 0 0], .bool false]) (fun W => Blk W (w.heap.size + 1) 90 #[.int .i64 0, .int .i64 0, .int .i64 0, .int .i64 0, .slice none 0 0]) (Blk.put5 Hk4r.out _ _ _ _ _) (fun W hB => by
        obtain ⟨⟨e0, e1, e2, e3, e4⟩, -⟩ := blk5 hB
        simp [results, Tryz.results32, go_sem, e0, e1, e2, e3, e4]) rfl ?_
      exact ⟨.inr ⟨Hno.out, rfl⟩, below_put5 (below_trans Hb0.out Hb0.out.size Hb.out) (by omega) _ _ _ _ _⟩

end Go.Proofs.YtpnbibokddhheaaGreat

/-
  Layer 21: what a tree says: few nodes, few hops, low costs; what is found in it.
-/
namespace Go.Proofs.YtpnbibokddhheaaGreat
open Go.RowKit

theorem NodesAt.reads {w w' : World} {B : Nat} {A : Option Addr} {n c : Nat} {N : List NodeM} (h : NodesAt w B (.slice A n c) N) (hb : Below w.heap.size w w') (hl : ∀ x ∈ N, x.next.length ≤ 2 ^ 16) : NodesIn w' w'.heap.size A N :=
  ⟨(OwnR.rows (C := 5) (cells := NodeM.cells) (fun _ => rfl) (h.row.below hb)).2, fun x hx => (OwnR.rows (C := 2) (cells := Hp.cells) (fun _ => rfl) ((h.each x hx).below hb)).2, hl⟩
theorem isHop_ok {E : List Ed} {DD : Vx → Vx → Option Val2} {r v : Vx} {h : Hp} (hr : r.kind = 1) (hh : isHop E DD r v h) : okHp h := by
  obtain ⟨e, he, hc, hs, a, ha, hh⟩ := hh
  obtain ⟨-, hdm, hk⟩ := cntE_iff.1 hc
  have hsk : e.fk = 1 := by rw [← hr, ← hs]; rfl
  have hlan : 0 ≤ e.ti / 16 ∧ e.ti / 16 ≤ 3 := by
    rcases mayV_iff.1 hdm with ⟨g, -⟩ | ⟨-, g1, g2⟩
    · have : e.tk = 1 := g
      omega
    · have g3 : (0 : Int) ≤ e.ti := g1
      have g4 : e.ti ≤ 63 := g2
      omega
  rcases hh with ⟨-, -, rfl⟩ | ⟨f, hf, hfc, hfs, b, -, -, rfl⟩
  · exact ⟨hlan, by simp, by simp⟩
  · obtain ⟨-, hfm, hfk⟩ := cntE_iff.1 hfc
    have hfsk : f.fk = e.tk := congrArg Vx.kind hfs
    rcases mayV_iff.1 hfm with ⟨-, g1, g2⟩ | ⟨g, -⟩
    · have g3 : (1 : Int) ≤ f.ti := g1
      have g4 : f.ti ≤ 15 := g2
      exact ⟨hlan, by simp only; omega, by simp only; omega⟩
    · have : f.tk = 2 := g
      omega
section
variable {E : List Ed} {DD : Vx → Vx → Option Val2} {r v : Vx} {L : List Nk}
theorem tree_low (hr : r.kind = 1) (h : TreeIs E DD r L) : ∀ n ∈ L, n.next.length ≤ 64 := fun n hn => hops_few (h.next n hn).1 fun x hx => isHop_ok hr (((h.next n hn).2 x).1 hx)
theorem tree_len (hD : Dists E DD) (hm : mayV r = true) (h : TreeIs E DD r L) : L.length ≤ 79 := by
  have hn : (L.map (·.v)).Nodup := (pairwise_map_key h.sorted).imp fun {a b} g => by rintro rfl; exact ltX_irr _ g
  have := may_len hn fun u hu => by
    obtain ⟨n, hn, rfl⟩ := List.mem_map.1 hu
    exact (hD r).may hm _ _ (h.val n hn)
  rwa [List.length_map] at this
theorem dist_low (hD : Dists E DD) {a : Val2} (hE : E.length ≤ 4000) (ha : DD r v = some a) : a.c ≤ 100000000 ∧ a.h ≤ 1000000 := by
  rw [← costs_dist (hD r)] at ha
  obtain ⟨k, hk, -, -, e⟩ := fix_some ha
  have h0 : BndR 0 [(r, (⟨0, 0⟩ : Val2))] := fun p hp => by
    rw [List.mem_singleton] at hp
    rw [hp]
    simp
  have h1 := h0.iter E 200 _ (List.getElem_mem hk)
  rw [e] at h1
  simp only at h1
  omega
end
section
variable {E : List Ed} {DD : Vx → Vx → Option Val2} {r v : Vx} {N : List NodeM}
theorem nodes_low (hr : r.kind = 1) (h : TreeIs E DD r (N.map NodeM.nk)) : ∀ x ∈ N, x.next.length ≤ 2 ^ 16 := fun x hx => Nat.le_trans (tree_low hr h _ (List.mem_map.2 ⟨x, hx, rfl⟩)) (by decide)
theorem treeOf_low (hr : r.kind = 1) (h : TreeOf E DD r (N.map NodeM.nk)) : ∀ x ∈ N, x.next.length ≤ 2 ^ 16 := by
  cases hm : mayV r with
  | true => exact nodes_low hr (h.1 hm)
  | false =>
    have := h.2 hm
    intro x hx
    rw [List.map_eq_nil_iff] at this
    rw [this] at hx
    cases hx
theorem treeOf_len (hD : Dists E DD) (h : TreeOf E DD r (N.map NodeM.nk)) : N.length ≤ 79 := by
  cases hm : mayV r with
  | true => have := tree_len hD hm (h.1 hm); rwa [List.length_map] at this
  | false =>
    have := h.2 hm
    rw [List.map_eq_nil_iff] at this
    rw [this]
    exact Nat.zero_le _
theorem find_has (h : TreeIs E DD r (N.map NodeM.nk)) {a : Val2} (ha : DD r v = some a) : ∃ x, findN N v = some x ∧ x ∈ N.map NodeM.nk ∧ x.v = v ∧ x.a = a := by
  obtain ⟨n, hn, hv⟩ := h.has v a ha
  cases hf : findN N v with
  | none =>
    unfold findN at hf
    rw [List.find?_eq_none] at hf
    exact absurd (decide_eq_true hv) (hf n hn)
  | some x =>
    unfold findN at hf
    have h1 := List.mem_of_find?_eq_some hf
    have h2 := List.find?_some hf
    rw [decide_eq_true_eq] at h2
    have h3 := h.val x h1
    rw [h2, ha] at h3
    injection h3 with h3
    exact ⟨x, rfl, h1, h2, h3.symm⟩
/-- a node is found by its vertex -/
theorem find_own (h : TreeIs E DD r (N.map NodeM.nk)) {n : NodeM} (hn : n ∈ N) : findN N n.v = some n.nk := by
  have hm : n.nk ∈ N.map NodeM.nk := List.mem_map.2 ⟨n, hn, rfl⟩
  obtain ⟨x, hx, hxm, hxv, hxa⟩ := find_has h (h.val _ hm)
  rw [show n.nk.v = n.v from rfl] at hx
  rw [hx]
  congr 1
  obtain ⟨i, hi, e1⟩ := List.getElem_of_mem hxm
  obtain ⟨j, hj, e2⟩ := List.getElem_of_mem hm
  have hs := List.pairwise_iff_getElem.1 h.sorted
  rcases Nat.lt_trichotomy i j with g | g | g
  · have := hs i j hi hj g
    rw [e1, e2, hxv] at this
    exact absurd this (ltX_irr _)
  · subst g
    rw [← e1, ← e2]
  · have := hs j i hj hi g
    rw [e1, e2, hxv] at this
    exact absurd this (ltX_irr _)
end

end Go.Proofs.YtpnbibokddhheaaGreat

/-
  Layer 21: trees of any root are one; one node, in a row of its own.
-/
namespace Go.Proofs.YtpnbibokddhheaaGreat
open Go.RowKit

theorem treeOf_unique {E : List Ed} {DD : Vx → Vx → Option Val2} {r : Vx} {L L' : List Nk} (hD : Dists E DD) (h : TreeOf E DD r L) (h' : TreeOf E DD r L') : L = L' := by
  cases hm : mayV r with
  | true => exact tree_unique hD hD (h.1 hm) (h'.1 hm) fun _ _ => Iff.rfl
  | false => rw [h.2 hm, h'.2 hm]
theorem treeOf_in {E : List Ed} {DD : Vx → Vx → Option Val2} {r : Vx} {L : List Nk} (h : TreeOf E DD r L) {n : Nk} (hn : n ∈ L) : TreeIs E DD r L := by
  cases hm : mayV r with
  | true => exact h.1 hm
  | false => rw [h.2 hm] at hn; cases hn
theorem treeOf_may {E : List Ed} {DD : Vx → Vx → Option Val2} {r : Vx} {L : List Nk} (hD : Dists E DD) (h : TreeOf E DD r L) : ∀ n ∈ L, mayV n.v = true := by
  intro n hn
  cases hm : mayV r with
  | true => exact (hD r).may hm _ _ ((h.1 hm).val n hn)
  | false => rw [h.2 hm] at hn; cases hn
theorem find_other {E : List Ed} {DD : Vx → Vx → Option Val2} {r : Vx} {N : List NodeM} (hD : Dists E DD) (h : TreeOf E DD r (N.map NodeM.nk)) {v : Vx} (hv : mayV v = false) : findN N v = none :=
  findN_not fun p hp e => by
    have := treeOf_may hD h p.nk (List.mem_map.2 ⟨p, hp, rfl⟩)
    rw [show p.nk.v = v from e, hv] at this
    cases this
/-- a row of one node -/
theorem nodes_one {w : World} {g : Nat} {x : NodeM} (h : Blk w g 90 #[.int .i64 x.v.kind, .int .i64 x.v.id, .int .i64 x.a.c, .int .i64 x.a.h, .slice x.A x.next.length x.c]) (hr : RowsH w w.heap.size x.A x.next) (hl : x.next.length ≤ 2 ^ 16) : NodesIn w w.heap.size (some ⟨g, 0, none⟩) [x] where
  rows := by
    intro _
    refine ⟨g, 0, rfl, h.lt, fun k hk i u hi hu => ?_⟩
    obtain rfl : k = 0 := by simpa using hk
    rw [show 0 + 0 * 5 + i = i by omega, h.cell]
    simp only [List.getElem_cons_zero, NodeM.cells] at hu
    simpa using hu
  each := by
    intro y hy
    rw [List.mem_singleton] at hy
    subst hy
    exact hr
  low := by
    intro y hy
    rw [List.mem_singleton] at hy
    subst hy
    exact hl

end Go.Proofs.YtpnbibokddhheaaGreat

/-
  Layer 22 in plain words: ends and routes, node by node, leaf by leaf.
-/
namespace Go.Proofs.YtpnbibokddhheaaGreat
open Go.RowKit Go.Sort

theorem wrap_small {z : Int} (h0 : 0 ≤ z) (h1 : z ≤ 2 ^ 40) : IntKind.i64.wrap z = z ∧ wrap64 z = z := by
  have h2 : z ≤ 1099511627776 := h1
  refine ⟨?_, ?_⟩
  · rw [IntKind.wrap_i64]; omega
  · unfold wrap64; omega
theorem nodeEnds_snoc (lan : Int) (L : List Nk) (n : Nk) : nodeEnds lan (L ++ [n]) = nodeEnds lan L ++ nodeEnd lan n := by simp [nodeEnds]
theorem rtsOf_snoc (self : Int) (L : List Nk) (n : Nk) : rtsOf self (L ++ [n]) = rtsOf self L ++ rtOf self n := by simp [rtsOf]
theorem leafEnds_snoc (self lan : Int) (nodes : List Nk) (F : List Lf) (f : Lf) : leafEnds self lan nodes (F ++ [f]) = leafEnds self lan nodes F ++ nodes.flatMap (leafEnd self lan f) := by simp [leafEnds]
theorem nodeEnd_at {lan : Int} {n : Nk} (h1 : n.v.kind = 2) (h2 : n.v.id / 16 = lan) : nodeEnd lan n = [(n.a.c, n.next)] := if_pos ⟨h1, h2⟩
theorem nodeEnd_ne {lan : Int} {n : Nk} (h : ¬ (n.v.kind = 2 ∧ n.v.id / 16 = lan)) : nodeEnd lan n = [] := if_neg h
/-- what is wanted of nodes -/
structure NodesOk (L : List Nk) : Prop where
  sorted : L.Pairwise fun x y => ltX x.v y.v
  may : ∀ n ∈ L, mayV n.v = true
  cost : ∀ n ∈ L, n.a.c ≤ 100000000
  net : ∀ n ∈ L, n.v.kind = 2 → 1 ≤ n.a.c
  hops : ∀ n ∈ L, ∀ h ∈ n.next, okHp h
theorem nodesOk {E : List Ed} {DD : Vx → Vx → Option Val2} {self : Int} {L : List Nk} (hD : Dists E DD) (hE : E.length ≤ 4000) (h : TreeOf E DD ⟨1, self⟩ L) : NodesOk L := by
  cases hm : mayV ⟨1, self⟩ with
  | false =>
    rw [h.2 hm]
    exact ⟨List.Pairwise.nil, by simp, by simp, by simp, by simp⟩
  | true =>
    have hT := h.1 hm
    refine ⟨hT.sorted, fun n hn => (hD _).may hm _ _ (hT.val n hn), fun n hn => (dist_low hD hE (hT.val n hn)).1, fun n hn hk => ?_, fun n hn x hx => isHop_ok rfl (((hT.next n hn).2 x).1 hx)⟩
    rcases (hD _).pos rfl _ _ (hT.val n hn) with ⟨e, -⟩ | ⟨-, e, -⟩
    · rw [e] at hk; cases hk
    · exact e
theorem NodesOk.low {L : List Nk} (h : NodesOk L) {E : List Ed} {DD : Vx → Vx → Option Val2} {self : Int} (hT : TreeOf E DD ⟨1, self⟩ L) : ∀ n ∈ L, n.next.length ≤ 64 := fun n hn => by
  have hI := treeOf_in hT hn
  exact hops_few (hI.next n hn).1 (h.hops n hn)
/-- what is wanted of leaves -/
def LeavesOk (F : List Lf) : Prop := ∀ f ∈ F, (1 ≤ f.router ∧ f.router ≤ 15) ∧ (0 ≤ f.lan ∧ f.lan ≤ 3) ∧ (1 ≤ f.cost ∧ f.cost ≤ 100)
theorem leavesOk (l : List VX) : LeavesOk (leavesV l) := by
  intro f hf
  obtain ⟨r, n, c, hr, hn, hc, rfl⟩ := mem_leaves.1 hf
  exact leaf_bounds (countsV_ok l) (leaf_is hc)
/-- of nodes in order there is one of a vertex, or none -/
theorem leaf_flat {self lan : Int} {f : Lf} : ∀ {L : List Nk}, (L.Pairwise fun x y => ltX x.v y.v) → L.flatMap (leafEnd self lan f) = match L.find? fun n => decide (n.v = ⟨1, f.router⟩) with
    | some n => leafEnd self lan f n
    | none => []
  | [], _ => rfl
  | n :: L, h => by
    obtain ⟨h1, h2⟩ := List.pairwise_cons.1 h
    rw [List.flatMap_cons, List.find?_cons]
    by_cases e : n.v = ⟨1, f.router⟩
    · rw [decide_eq_true e]
      have hnil : L.flatMap (leafEnd self lan f) = [] := by
        rw [List.flatMap_eq_nil_iff]
        intro m hm
        unfold leafEnd
        rw [if_neg]
        rintro ⟨-, e2⟩
        have := h1 m hm
        rw [e, e2] at this
        exact ltX_irr _ this
      rw [hnil, List.append_nil]
    · rw [decide_eq_false e]
      have hnil : leafEnd self lan f n = [] := by
        unfold leafEnd
        rw [if_neg]
        exact fun h => e h.2
      rw [hnil, List.nil_append]
      exact leaf_flat h2
theorem leafEnd_at {self lan : Int} {f : Lf} {n : Nk} (h1 : f.lan = lan) (h2 : n.v = ⟨1, f.router⟩) : leafEnd self lan f n = [(n.a.c + f.cost.toNat, if f.router = self then [⟨lan, 0⟩] else n.next)] := if_pos ⟨h1, h2⟩
theorem leafEnd_ne {self lan : Int} {f : Lf} {n : Nk} (h : f.lan ≠ lan) : leafEnd self lan f n = [] := if_neg fun g => h g.1
theorem nodeEnds_len (lan : Int) (L : List Nk) : (nodeEnds lan L).length ≤ L.length := by
  unfold nodeEnds
  induction L with
  | nil => simp
  | cons n L ih =>
    rw [List.flatMap_cons, List.length_append, List.length_cons]
    have : (nodeEnd lan n).length ≤ 1 := by unfold nodeEnd; split <;> simp
    omega
theorem leafEnd_len (self lan : Int) (f : Lf) (L : List Nk) : (L.flatMap (leafEnd self lan f)).length ≤ L.length := by
  induction L with
  | nil => simp
  | cons n L ih =>
    rw [List.flatMap_cons, List.length_append, List.length_cons]
    have : (leafEnd self lan f n).length ≤ 1 := by unfold leafEnd; split <;> simp
    omega
theorem leafEnds_len {self lan : Int} {nodes : List Nk} (hs : nodes.Pairwise fun x y => ltX x.v y.v) (F : List Lf) : (leafEnds self lan nodes F).length ≤ F.length := by
  unfold leafEnds
  induction F with
  | nil => simp
  | cons f F ih =>
    rw [List.flatMap_cons, List.length_append, List.length_cons]
    have : (nodes.flatMap (leafEnd self lan f)).length ≤ 1 := by
      rw [leaf_flat hs]
      split
      · unfold leafEnd; split <;> simp
      · simp
    omega
/-- all four networks' routes -/
def AllOk (f : Nat → RtM) (X : Int → List EndV) : Prop := ∀ k : Nat, k < 4 → NetOk k (X k) (f k) ∧ (f k).cost ≤ 2 ^ 40 ∧ ∀ p ∈ X k, ∀ y ∈ p.2, okHp y
theorem AllOk.low {f : Nat → RtM} {X : Int → List EndV} (h : AllOk f X) {k : Nat} (hk : k < 4) : (f k).next.length ≤ 64 := (h k hk).1.low (h k hk).2.2
theorem AllOk.same {f : Nat → RtM} {X X' : Int → List EndV} (h : AllOk f X) (he : ∀ k : Nat, k < 4 → X' k = X k) : AllOk f X' := fun k hk => by rw [he k hk]; exact h k hk
theorem AllOk.put {f : Nat → RtM} {X X' : Int → List EndV} (h : AllOk f X) {k : Nat} {x : RtM} {p : EndV} (hx : NetOk k (X k ++ [p]) x) (hc : x.cost ≤ 2 ^ 40) (hp : ∀ y ∈ p.2, okHp y) (hk : X' k = X k ++ [p]) (he : ∀ j : Nat, j < 4 → j ≠ k → X' j = X j) : AllOk (updN f k x) X' := by
  intro j hj
  by_cases e : j = k
  · subst e
    rw [updN_at, hk]
    refine ⟨hx, hc, fun q hq y hy => ?_⟩
    rcases List.mem_append.1 hq with hq | hq
    · exact (h j hj).2.2 q hq y hy
    · rw [List.mem_singleton] at hq
      subst hq
      exact hp y hy
  · rw [updN_ne f x e, he j hj e]
    exact h j hj
def rtZ : RtM := ⟨0, 0, 0, none, 0, []⟩
theorem AllOk.start {X : Int → List EndV} (h : ∀ k : Nat, k < 4 → X k = []) : AllOk (fun _ => rtZ) X := fun k hk => ⟨.inl ⟨rfl, rfl, rfl, rfl, h k hk⟩, show (0 : Nat) ≤ 2 ^ 40 by decide, by rw [h k hk]; simp⟩
/-- the routes at the end -/
def rtN (x : RtM) : List RtM := if 0 < x.cost then [x] else []
theorem routes_are {self : Int} {nodes : List Nk} {F : List Lf} {f : Nat → RtM} {M : List RtM} (hM : M.map RtM.rt = rtsOf self nodes) (h : AllOk f fun lan => endsV self lan nodes F) : RoutesAre self nodes F ((M ++ rtN (f 0) ++ rtN (f 1) ++ rtN (f 2) ++ rtN (f 3)).map RtM.rt) := by
  refine ⟨fun lan => if 0 < (f lan.toNat).cost then some ((f lan.toNat).cost, (f lan.toNat).next) else none, fun lan h0 h3 => ?_, ?_⟩
  · obtain ⟨k, rfl⟩ := Int.eq_ofNat_of_zero_le h0
    have hk : k < 4 := by omega
    have hx := (h k hk).1
    simp only [Int.toNat_natCast]
    rcases hx with ⟨-, -, e, -, e2⟩ | ⟨e1, e2, e3, e4⟩
    · rw [if_neg (by omega)]
      exact e2
    · rw [if_pos (by omega)]
      exact e4
  · have hone : ∀ k : Nat, k < 4 → (rtN (f k)).map RtM.rt = netOf (fun lan : Int => if 0 < (f lan.toNat).cost then some ((f lan.toNat).cost, (f lan.toNat).next) else none) k := by
      intro k hk
      unfold rtN netOf
      simp only [Int.toNat_natCast]
      rcases (h k hk).1 with ⟨-, -, e, -, e2⟩ | ⟨e1, e2, e3, e4⟩
      · rw [if_neg (by omega), if_neg (by omega)]
        rfl
      · rw [if_pos (by omega), if_pos (by omega)]
        simp [RtM.rt, e1, e2]
    have h0 := hone 0 (by omega)
    have h1 := hone 1 (by omega)
    have h2 := hone 2 (by omega)
    have h3 := hone 3 (by omega)
    rw [List.map_append, List.map_append, List.map_append, List.map_append, hM, h0, h1, h2, h3]
    simp [netsOf]

end Go.Proofs.YtpnbibokddhheaaGreat

/-
  The library's slices.SortFunc, laid at this program: written by lay-plain.mjs of the kit.
-/
namespace Go.Proofs
open Go.Shelf
def Tryz.sortEdge_ren : Go.Shelf.Ren := ⟨fun | 6 => 64 | 15 => 79 | 14 => 102 | 28 => 118 | 29 => 119 | 20 => 150 | 21 => 151 | 22 => 152 | 23 => 153 | 24 => 154 | 25 => 155 | 26 => 156 | 27 => 157 | 46 => 199 | 47 => 178 | 48 => 179 | 49 => 200 | 50 => 201 | 57 => 219 | n => n, fun | 22 => 87 | 24 => 133 | 25 => 158 | 3 => 3 | 39 => 92 | 0 => 0 | 53 => 213 | 55 => 215 | 4 => 4 | 46 => 207 | 45 => 206 | 50 => 123 | 5 => 5 | 9 => 9 | 66 => 260 | 70 => 264 | 76 => 285 | 77 => 235 | n => n, fun | n => n⟩
theorem Tryz.sortEdge : Go.Proofs.SlLaysF0.n6 Tryz.prog Tryz.sortEdge_ren := {
  mixed := by kernel_rfl
  f6 := ⟨Tryz.f64.name, by decide, Tryz.func64.trans (congrArg some (by kernel_rfl))⟩
  f14 := ⟨Tryz.f102.name, by decide, Tryz.func102.trans (congrArg some (by kernel_rfl))⟩
  f15 := Tryz.func79.trans (congrArg some (by kernel_rfl))
  f20 := ⟨Tryz.f150.name, by decide, Tryz.func150.trans (congrArg some (by kernel_rfl))⟩
  f21 := ⟨Tryz.f151.name, by decide, Tryz.func151.trans (congrArg some (by kernel_rfl))⟩
  f22 := ⟨Tryz.f152.name, by decide, Tryz.func152.trans (congrArg some (by kernel_rfl))⟩
  f23 := ⟨Tryz.f153.name, by decide, Tryz.func153.trans (congrArg some (by kernel_rfl))⟩
  f24 := ⟨Tryz.f154.name, by decide, Tryz.func154.trans (congrArg some (by kernel_rfl))⟩
  f25 := ⟨Tryz.f155.name, by decide, Tryz.func155.trans (congrArg some (by kernel_rfl))⟩
  f26 := ⟨Tryz.f156.name, by decide, Tryz.func156.trans (congrArg some (by kernel_rfl))⟩
  f27 := ⟨Tryz.f157.name, by decide, Tryz.func157.trans (congrArg some (by kernel_rfl))⟩
  f28 := Tryz.func118.trans (congrArg some (by kernel_rfl))
  f29 := Tryz.func119.trans (congrArg some (by kernel_rfl))
  f46 := ⟨Tryz.f199.name, by decide, Tryz.func199.trans (congrArg some (by kernel_rfl))⟩
  f47 := Tryz.func178.trans (congrArg some (by kernel_rfl))
  f48 := Tryz.func179.trans (congrArg some (by kernel_rfl))
  f49 := ⟨Tryz.f200.name, by decide, Tryz.func200.trans (congrArg some (by kernel_rfl))⟩
  f50 := ⟨Tryz.f201.name, by decide, Tryz.func201.trans (congrArg some (by kernel_rfl))⟩
  f57 := ⟨Tryz.f219.name, by decide, Tryz.func219.trans (congrArg some (by kernel_rfl))⟩
  t0 := Tryz.underlying0
  a0 := Tryz.isAgg0
  z0 := Tryz.sizeOf0
  v0 := Tryz.zeroValue0
  t3 := Tryz.underlying3
  a3 := Tryz.isAgg3
  z3 := Tryz.sizeOf3
  v3 := Tryz.zeroValue3
  t4 := Tryz.underlying4
  a4 := Tryz.isAgg4
  z4 := Tryz.sizeOf4
  v4 := Tryz.zeroValue4
  t5 := Tryz.underlying5
  a5 := Tryz.isAgg5
  z5 := Tryz.sizeOf5
  v5 := Tryz.zeroValue5
  t9 := Tryz.underlying9
  a9 := Tryz.isAgg9
  z9 := Tryz.sizeOf9
  v9 := Tryz.zeroValue9
  t22 := Tryz.underlying87
  a22 := Tryz.isAgg87
  z22 := Tryz.sizeOf87
  v22 := Tryz.zeroValue87
  t25 := Tryz.underlying158
  a25 := Tryz.isAgg158
  z25 := Tryz.sizeOf158
  v25 := Tryz.zeroValue158
  t39 := Tryz.underlying92
  a39 := Tryz.isAgg92
  z39 := Tryz.sizeOf92
  v39 := Tryz.zeroValue92
  t45 := Tryz.underlying206
  a45 := Tryz.isAgg206
  z45 := Tryz.sizeOf206
  v45 := Tryz.zeroValue206
  t46 := Tryz.underlying207
  a46 := Tryz.isAgg207
  z46 := Tryz.sizeOf207
  v46 := Tryz.zeroValue207
  t50 := Tryz.underlying123
  a50 := Tryz.isAgg123
  z50 := Tryz.sizeOf123
  v50 := Tryz.zeroValue123
  t53 := Tryz.underlying213
  a53 := Tryz.isAgg213
  z53 := Tryz.sizeOf213
  v53 := Tryz.zeroValue213
  t55 := Tryz.underlying215
  a55 := Tryz.isAgg215
  z55 := Tryz.sizeOf215
  v55 := Tryz.zeroValue215
  t66 := Tryz.underlying260
  a66 := Tryz.isAgg260
  z66 := Tryz.sizeOf260
  v66 := Tryz.zeroValue260
  t70 := Tryz.underlying264
  a70 := Tryz.isAgg264
  z70 := Tryz.sizeOf264
  v70 := Tryz.zeroValue264
  t76 := Tryz.underlying285
  a76 := Tryz.isAgg285
  z76 := Tryz.sizeOf285
  v76 := Tryz.zeroValue285
  t77 := Tryz.underlying235
  a77 := Tryz.isAgg235
  z77 := Tryz.sizeOf235
  v77 := Tryz.zeroValue235 }
end Go.Proofs

/-
  The library's slices.SortFunc, laid at this program: written by lay-plain.mjs of the kit.
-/
namespace Go.Proofs
open Go.Shelf
def Tryz.sortLeaf_ren : Go.Shelf.Ren := ⟨fun | 6 => 71 | 15 => 79 | 14 => 105 | 28 => 118 | 29 => 119 | 20 => 166 | 21 => 167 | 22 => 168 | 23 => 169 | 24 => 170 | 25 => 171 | 26 => 172 | 27 => 173 | 46 => 205 | 47 => 178 | 48 => 179 | 49 => 206 | 50 => 207 | 57 => 221 | n => n, fun | 22 => 96 | 24 => 99 | 25 => 166 | 3 => 3 | 39 => 92 | 0 => 0 | 53 => 213 | 55 => 215 | 4 => 4 | 46 => 207 | 45 => 206 | 50 => 123 | 5 => 5 | 9 => 9 | 66 => 260 | 70 => 264 | 76 => 285 | 77 => 235 | n => n, fun | n => n⟩
theorem Tryz.sortLeaf : Go.Proofs.SlLaysF0.n6 Tryz.prog Tryz.sortLeaf_ren := {
  mixed := by kernel_rfl
  f6 := ⟨Tryz.f71.name, by decide, Tryz.func71.trans (congrArg some (by kernel_rfl))⟩
  f14 := ⟨Tryz.f105.name, by decide, Tryz.func105.trans (congrArg some (by kernel_rfl))⟩
  f15 := Tryz.func79.trans (congrArg some (by kernel_rfl))
  f20 := ⟨Tryz.f166.name, by decide, Tryz.func166.trans (congrArg some (by kernel_rfl))⟩
  f21 := ⟨Tryz.f167.name, by decide, Tryz.func167.trans (congrArg some (by kernel_rfl))⟩
  f22 := ⟨Tryz.f168.name, by decide, Tryz.func168.trans (congrArg some (by kernel_rfl))⟩
  f23 := ⟨Tryz.f169.name, by decide, Tryz.func169.trans (congrArg some (by kernel_rfl))⟩
  f24 := ⟨Tryz.f170.name, by decide, Tryz.func170.trans (congrArg some (by kernel_rfl))⟩
  f25 := ⟨Tryz.f171.name, by decide, Tryz.func171.trans (congrArg some (by kernel_rfl))⟩
  f26 := ⟨Tryz.f172.name, by decide, Tryz.func172.trans (congrArg some (by kernel_rfl))⟩
  f27 := ⟨Tryz.f173.name, by decide, Tryz.func173.trans (congrArg some (by kernel_rfl))⟩
  f28 := Tryz.func118.trans (congrArg some (by kernel_rfl))
  f29 := Tryz.func119.trans (congrArg some (by kernel_rfl))
  f46 := ⟨Tryz.f205.name, by decide, Tryz.func205.trans (congrArg some (by kernel_rfl))⟩
  f47 := Tryz.func178.trans (congrArg some (by kernel_rfl))
  f48 := Tryz.func179.trans (congrArg some (by kernel_rfl))
  f49 := ⟨Tryz.f206.name, by decide, Tryz.func206.trans (congrArg some (by kernel_rfl))⟩
  f50 := ⟨Tryz.f207.name, by decide, Tryz.func207.trans (congrArg some (by kernel_rfl))⟩
  f57 := ⟨Tryz.f221.name, by decide, Tryz.func221.trans (congrArg some (by kernel_rfl))⟩
  t0 := Tryz.underlying0
  a0 := Tryz.isAgg0
  z0 := Tryz.sizeOf0
  v0 := Tryz.zeroValue0
  t3 := Tryz.underlying3
  a3 := Tryz.isAgg3
  z3 := Tryz.sizeOf3
  v3 := Tryz.zeroValue3
  t4 := Tryz.underlying4
  a4 := Tryz.isAgg4
  z4 := Tryz.sizeOf4
  v4 := Tryz.zeroValue4
  t5 := Tryz.underlying5
  a5 := Tryz.isAgg5
  z5 := Tryz.sizeOf5
  v5 := Tryz.zeroValue5
  t9 := Tryz.underlying9
  a9 := Tryz.isAgg9
  z9 := Tryz.sizeOf9
  v9 := Tryz.zeroValue9
  t22 := Tryz.underlying96
  a22 := Tryz.isAgg96
  z22 := Tryz.sizeOf96
  v22 := Tryz.zeroValue96
  t25 := Tryz.underlying166
  a25 := Tryz.isAgg166
  z25 := Tryz.sizeOf166
  v25 := Tryz.zeroValue166
  t39 := Tryz.underlying92
  a39 := Tryz.isAgg92
  z39 := Tryz.sizeOf92
  v39 := Tryz.zeroValue92
  t45 := Tryz.underlying206
  a45 := Tryz.isAgg206
  z45 := Tryz.sizeOf206
  v45 := Tryz.zeroValue206
  t46 := Tryz.underlying207
  a46 := Tryz.isAgg207
  z46 := Tryz.sizeOf207
  v46 := Tryz.zeroValue207
  t50 := Tryz.underlying123
  a50 := Tryz.isAgg123
  z50 := Tryz.sizeOf123
  v50 := Tryz.zeroValue123
  t53 := Tryz.underlying213
  a53 := Tryz.isAgg213
  z53 := Tryz.sizeOf213
  v53 := Tryz.zeroValue213
  t55 := Tryz.underlying215
  a55 := Tryz.isAgg215
  z55 := Tryz.sizeOf215
  v55 := Tryz.zeroValue215
  t66 := Tryz.underlying260
  a66 := Tryz.isAgg260
  z66 := Tryz.sizeOf260
  v66 := Tryz.zeroValue260
  t70 := Tryz.underlying264
  a70 := Tryz.isAgg264
  z70 := Tryz.sizeOf264
  v70 := Tryz.zeroValue264
  t76 := Tryz.underlying285
  a76 := Tryz.isAgg285
  z76 := Tryz.sizeOf285
  v76 := Tryz.zeroValue285
  t77 := Tryz.underlying235
  a77 := Tryz.isAgg235
  z77 := Tryz.sizeOf235
  v77 := Tryz.zeroValue235 }
end Go.Proofs

/-
  Layer 20: how edges, and leaves, are compared; sorted.
-/
namespace Go.Proofs.YtpnbibokddhheaaGreat
open Go.RowKit Go.Sort Go.Proofs

def cmpE (a b : Ed) : Int := orL [cmp2 a.fk a.fi b.fk b.fi, cmp2 a.tk a.ti b.tk b.ti]
def cmpF (a b : Lf) : Int := cmp2 a.router a.lan b.router b.lan
set_option maxHeartbeats 2000000 in
set_option maxRecDepth 100000 in
theorem compare_g (a1 a2 b1 b2 : Int) (w : World) : Calls Tryz.prog 66 #[.agg #[.int .i64 a1, .int .i64 a2], .agg #[.int .i64 b1, .int .i64 b2]] w fun r w' => r = .returned (.int .i64 (cmp2 a1 a2 b1 b2)) ∧ ∃ q os', w' = grow (w.drewN q) os' := by
  obtain ⟨w0, hW0⟩ : ∃ w0, (w.alloc (.cells #[.int .i64 a1, .int .i64 a2] 39)).alloc (.cells #[.int .i64 b1, .int .i64 b2] 39) = w0 := ⟨_, rfl⟩
  have hA : Blk w0 w.heap.size 39 #[.int .i64 a1, .int .i64 a2] := by rw [← hW0]; exact (Blk.new w _ _).alloc _
  have hB : Blk w0 (w.heap.size + 1) 39 #[.int .i64 b1, .int .i64 b2] := by rw [← hW0]; exact Blk.size (by simp)
  have Hg : Hid (∃ os, w0 = grow w os) := Lib.hid ⟨_, by rw [← hW0, alloc_eq_grow, alloc_eq_grow, grow_grow]⟩
  obtain ⟨a_0, a_1⟩ : _ ∧ _ := ⟨hA.cell 0, hA.cell 1⟩
  obtain ⟨b_0, b_1⟩ : _ ∧ _ := ⟨hB.cell 0, hB.cell 1⟩
  simp only [List.getElem?_toArray, List.getElem?_cons_zero, List.getElem?_cons_succ] at a_0 a_1 b_0 b_1
  clear hA hB
  go_enter Tryz.func66, Tryz.ntmps66
  go_wp2_with fail
  refine wp_drew_tail 10 (by kernel_rfl) (by kernel_rfl) ?_
  simp only [List.take_succ_cons, List.take_zero, List.drop_succ_cons, List.drop_zero]
  repeat (go_big_quiet_step (exact cmp_q _ _ _ _))
  refine wpQuiet_nil ?_
  rintro w3 ⟨dq, rfl⟩
  go_wp2_with (go_at_call 59; (with_reducible refine Calls.mono (or2_s _ _ _) ?_); rintro r w4 ⟨rfl, rfl⟩)
  go_ret
  obtain ⟨os, hos⟩ := Hg.out
  refine ⟨rfl, dq, os.push (.cells #[.int .i64 (cmpI a1 b1), .int .i64 (cmpI a2 b2)] 3), ?_⟩
  subst hos
  simp [grow, World.alloc, World.drewN]
theorem leavesCmp_any (a b : Lf) (w : World) : Calls Tryz.prog 72 #[.agg a.cells.toArray, .agg b.cells.toArray] w fun r w' => r = .returned (.int .i64 (cmpF a b)) ∧ ∃ q os', w' = grow (w.drewN q) os' := by
  obtain ⟨a1, a2, a3⟩ := a
  obtain ⟨b1, b2, b3⟩ := b
  unfold cmpF Lf.cells
  simp only
  obtain ⟨w0, hW0⟩ : ∃ w0, (w.alloc (.cells #[.int .i64 a1, .int .i64 a2, .int .i64 a3] 99)).alloc (.cells #[.int .i64 b1, .int .i64 b2, .int .i64 b3] 99) = w0 := ⟨_, rfl⟩
  have hA : Blk w0 w.heap.size 99 #[.int .i64 a1, .int .i64 a2, .int .i64 a3] := by rw [← hW0]; exact (Blk.new w _ _).alloc _
  have hB : Blk w0 (w.heap.size + 1) 99 #[.int .i64 b1, .int .i64 b2, .int .i64 b3] := by rw [← hW0]; exact Blk.size (by simp)
  have Hg : Hid (∃ os, w0 = grow w os) := Lib.hid ⟨_, by rw [← hW0, alloc_eq_grow, alloc_eq_grow, grow_grow]⟩
  obtain ⟨a_0, a_1⟩ : _ ∧ _ := ⟨hA.cell 0, hA.cell 1⟩
  obtain ⟨b_0, b_1⟩ : _ ∧ _ := ⟨hB.cell 0, hB.cell 1⟩
  simp only [List.getElem?_toArray, List.getElem?_cons_zero, List.getElem?_cons_succ] at a_0 a_1 b_0 b_1
  clear hA hB
  go_enter Tryz.func72, Tryz.ntmps72
  go_wp2_with fail
  refine wp_drew_tail 10 (by kernel_rfl) (by kernel_rfl) ?_
  simp only [List.take_succ_cons, List.take_zero, List.drop_succ_cons, List.drop_zero]
  repeat (go_big_quiet_step (exact cmp_q _ _ _ _))
  refine wpQuiet_nil ?_
  rintro w3 ⟨dq, rfl⟩
  go_wp2_with (go_at_call 59; (with_reducible refine Calls.mono (or2_s _ _ _) ?_); rintro r w4 ⟨rfl, rfl⟩)
  go_ret
  obtain ⟨os, hos⟩ := Hg.out
  refine ⟨rfl, dq, os.push (.cells #[.int .i64 (cmpI a1 b1), .int .i64 (cmpI a2 b2)] 3), ?_⟩
  subst hos
  simp [grow, World.alloc, World.drewN]
set_option maxHeartbeats 2000000 in
set_option maxRecDepth 100000 in
theorem edgesCmp_any (a b : Ed) (w : World) : Calls Tryz.prog 65 #[.agg a.cells.toArray, .agg b.cells.toArray] w fun r w' => r = .returned (.int .i64 (cmpE a b)) ∧ ∃ q os', w' = grow (w.drewN q) os' := by
  obtain ⟨a1, a2, a3, a4, a5⟩ := a
  obtain ⟨b1, b2, b3, b4, b5⟩ := b
  unfold cmpE Ed.cells
  simp only
  obtain ⟨w0, hW0⟩ : ∃ w0, (w.alloc (.cells #[.int .i64 a1, .int .i64 a2, .int .i64 a3, .int .i64 a4, .int .i64 a5] 133)).alloc (.cells #[.int .i64 b1, .int .i64 b2, .int .i64 b3, .int .i64 b4, .int .i64 b5] 133) = w0 := ⟨_, rfl⟩
  have hA : Blk w0 w.heap.size 133 #[.int .i64 a1, .int .i64 a2, .int .i64 a3, .int .i64 a4, .int .i64 a5] := by rw [← hW0]; exact (Blk.new w _ _).alloc _
  have hB : Blk w0 (w.heap.size + 1) 133 #[.int .i64 b1, .int .i64 b2, .int .i64 b3, .int .i64 b4, .int .i64 b5] := by rw [← hW0]; exact Blk.size (by simp)
  have Hg : Hid (∃ os, w0 = grow w os) := Lib.hid ⟨_, by rw [← hW0, alloc_eq_grow, alloc_eq_grow, grow_grow]⟩
  obtain ⟨a_0, a_1, a_2, a_3⟩ : _ ∧ _ ∧ _ ∧ _ := ⟨cell_gd (hA.cell 0), cell_gd (hA.cell 1), cell_gd (hA.cell 2), cell_gd (hA.cell 3)⟩
  obtain ⟨b_0, b_1, b_2, b_3⟩ : _ ∧ _ ∧ _ ∧ _ := ⟨cell_gd (hB.cell 0), cell_gd (hB.cell 1), cell_gd (hB.cell 2), cell_gd (hB.cell 3)⟩
  have CB := Lib.hid (fun x1 x2 y1 y2 q os => gd_of (w := w0) (q := q) (os := os) (compare_g x1 x2 y1 y2 _))
  clear hA hB
  go_enter Tryz.func65, Tryz.ntmps65
  go_wp2_with fail
  refine wp_gd_tail 10 (by kernel_rfl) (by kernel_rfl) ?_
  simp only [List.take_succ_cons, List.take_zero, List.drop_succ_cons, List.drop_zero]
  repeat (go_big_quiet_step (exact CB.out _ _ _ _ _ _))
  refine wpQuiet_nil ?_
  rintro w3 ⟨⟨dq, osq⟩, hw3⟩
  have Hw3 := Lib.hid hw3
  clear hw3
  go_wp2_with (go_at_call 59; (with_reducible refine Calls.mono (or2_s _ _ _) ?_); rintro r w4 ⟨rfl, rfl⟩)
  go_ret
  obtain ⟨os, hos⟩ := Hg.out
  refine ⟨rfl, dq, (os ++ osq).push (.cells #[.int .i64 (cmp2 a1 a2 b1 b2), .int .i64 (cmp2 a3 a4 b3 b4)] 3), ?_⟩
  rw [Hw3.out]
  subst hos
  simp [grow, World.alloc, World.drewN, Array.append_assoc]

theorem cmpE_lt (a b : Ed) : cmpE a b < 0 ↔ ltE a b := by
  unfold cmpE ltE
  rw [or2_lt, (cmp2_lt _ _ _ _).1, (cmp2_lt _ _ _ _).2, (cmp2_lt _ _ _ _).1]
  omega
theorem cmpF_lt (a b : Lf) : cmpF a b < 0 ↔ ltF a b := by
  unfold cmpF ltF
  rw [(cmp2_lt _ _ _ _).1]
theorem ltOf_E {a b : Ed} : (ltOf cmpE a b = true ↔ ltE a b) ∧ (ltOf cmpE a b = false ↔ ¬ ltE a b) := by
  unfold ltOf
  rw [← cmpE_lt]
  simp
theorem ltOf_F {a b : Lf} : (ltOf cmpF a b = true ↔ ltF a b) ∧ (ltOf cmpF a b = false ↔ ¬ ltF a b) := by
  unfold ltOf
  rw [← cmpF_lt]
  simp
theorem swoE : SWO (ltOf cmpE) where
  irrefl := fun x => ltOf_E.2.2 (ltE_irr x)
  trans := fun x y z h1 h2 => by rw [ltOf_E.1] at *; unfold ltE at *; omega
  ntrans := fun x y z h1 h2 => by rw [ltOf_E.2] at *; unfold ltE at *; omega
theorem swoF : SWO (ltOf cmpF) where
  irrefl := fun x => ltOf_F.2.2 (ltF_irr x)
  trans := fun x y z h1 h2 => by rw [ltOf_F.1] at *; unfold ltF at *; omega
  ntrans := fun x y z h1 h2 => by rw [ltOf_F.2] at *; unfold ltF at *; omega
theorem call_E (xs : Array Value) (w : World) : (callFunc 65 xs).run Tryz.prog w = .ok (.enter 65 xs) w := callOf Tryz.func65 rfl (by kernel_rfl) xs w
theorem call_F (xs : Array Value) (w : World) : (callFunc 72 xs).run Tryz.prog w = .ok (.enter 72 xs) w := callOf Tryz.func72 rfl (by kernel_rfl) xs w
theorem sortEs (v : Value) (M : List Ed) (B : Nat) (w : World) (hown : OwnR 133 5 Ed.cells w B v M) (hlen : M.length ≤ 2 ^ 20) (ha : M.Pairwise fun x y => ltE x y ∨ ltE y x) :
    Calls Tryz.prog 64 #[v, .func (.func 65) #[] #[]] w fun r w' => r = .returned (.tuple #[]) ∧ (∃ N, OwnR 133 5 Ed.cells w' B v N ∧ N.Perm M ∧ N.Pairwise ltE) ∧ w.grownBy w' v.ownBlock := by
  have h := sort_row Tryz.sortEdge (C := 5) Tryz.isAgg133 Tryz.sizeOf133 Ed.cells (fun _ => rfl) onesE cmpE swoE 65 call_E (fun x y w => edgesCmp_any x y w) v M B w hown hlen
  change Calls Tryz.prog 64 _ _ _ at h
  refine h.mono ?_
  rintro r w' ⟨rfl, N, hN, hpN, hsN, hg⟩
  exact ⟨rfl, ⟨N, hN, hpN, sort_strict hpN (hsN.imp fun {x y} h => ltOf_E.2.1 h) ha⟩, hg⟩
theorem sortFs (v : Value) (M : List Lf) (B : Nat) (w : World) (hown : OwnR 99 3 Lf.cells w B v M) (hlen : M.length ≤ 2 ^ 20) (ha : M.Pairwise fun x y => ltF x y ∨ ltF y x) :
    Calls Tryz.prog 71 #[v, .func (.func 72) #[] #[]] w fun r w' => r = .returned (.tuple #[]) ∧ (∃ N, OwnR 99 3 Lf.cells w' B v N ∧ N.Perm M ∧ N.Pairwise ltF) ∧ w.grownBy w' v.ownBlock := by
  have h := sort_row Tryz.sortLeaf (C := 3) Tryz.isAgg99 Tryz.sizeOf99 Lf.cells (fun _ => rfl) onesF cmpF swoF 72 call_F (fun x y w => leavesCmp_any x y w) v M B w hown hlen
  change Calls Tryz.prog 71 _ _ _ at h
  refine h.mono ?_
  rintro r w' ⟨rfl, N, hN, hpN, hsN, hg⟩
  exact ⟨rfl, ⟨N, hN, hpN, sort_strict hpN (hsN.imp fun {x y} h => ltOf_F.2.1 h) ha⟩, hg⟩

end Go.Proofs.YtpnbibokddhheaaGreat
