/-
  Layer 22: a router's routes: the program's walk.
-/
import Derived.Test.YtpnbibokddhheaaGreatBad
import Derived.Test.YtpnbibokddhheaaGreatBag
import Derived.Test.YtpnbibokddhheaaGreatBak
import Derived.Test.YtpnbibokddhheaaGreatBal
import Derived.Test.YtpnbibokddhheaaGreatBam
namespace Go.Proofs.YtpnbibokddhheaaGreat
open Go.RowKit

theorem edges_lenT (f : Int → Int → Option Int) : (edgesC f).length ≤ 2000 := by
  rw [edges_pre, List.length_append]
  have h1 := preA_len f 15
  have h2 := preB_len f 64
  omega
theorem leaves_lenT (f : Int → Int → Option Int) : (leavesC f).length ≤ 100 := by
  rw [leaves_pre]
  have h1 := preF_len f 15
  omega
theorem NodesAt.ins2 {w : World} {B : Nat} {A : Option Addr} {n c : Nat} {N : List NodeM} (h : NodesAt w B (.slice A n c) N) (hl : ∀ x ∈ N, x.next.length ≤ 64) : NodesIn w w.heap.size A N := h.reads (Below.refl _ _) fun x hx => Nat.le_trans (hl x hx) (by decide)
theorem RtsAt.app {w w' : World} {B : Nat} {v v' : Value} {M : List RtM} {x : RtM} (h : RtsAt w B v M) (hg : w.grownBy w' v.ownBlock) (hr : OwnR 44 4 RtM.cells w' B v' (M ++ [x])) (hx : OwnH w B x.nv x.next) : RtsAt w' B v' (M ++ [x]) where
  row := hr
  each := by
    intro y hy
    rcases List.mem_append.1 hy with hy | hy
    · exact (h.each y hy).kept hg (own_two (h.each y hy) h.row (by decide))
    · rw [List.mem_singleton] at hy
      subst hy
      exact hx.kept hg (own_two hx h.row (by decide))
theorem blk4q {w : World} {g : Nat} {t : TypeId} {a b c d : Value} (h : Blk w g t #[a, b, c, d]) : (w.cell? ⟨g, 0, none⟩ = some a ∧ w.cell? ⟨g, 1, none⟩ = some b ∧ w.cell? ⟨g, 2, none⟩ = some c ∧ w.cell? ⟨g, 3, none⟩ = some d) ∧ w.frozen? ⟨g, 0, none⟩ = false := ⟨⟨h.cell 0, h.cell 1, h.cell 2, h.cell 3⟩, h.frozen 0⟩
theorem netsIx0 (a0 a1 a2 a3 a4 a5 a6 a7 a8 a9 a10 a11 a12 a13 a14 a15 : Value) (w : World) : (Instr.index 84 (.agg #[a0, a1, a2, a3, a4, a5, a6, a7, a8, a9, a10, a11, a12, a13, a14, a15]) (.int .i64 0)).run Tryz.prog w = .ok (.agg #[a0, a1, a2, a3]) w := by kernel_rfl
theorem netsIx1 (a0 a1 a2 a3 a4 a5 a6 a7 a8 a9 a10 a11 a12 a13 a14 a15 : Value) (w : World) : (Instr.index 84 (.agg #[a0, a1, a2, a3, a4, a5, a6, a7, a8, a9, a10, a11, a12, a13, a14, a15]) (.int .i64 1)).run Tryz.prog w = .ok (.agg #[a4, a5, a6, a7]) w := by kernel_rfl
theorem netsIx2 (a0 a1 a2 a3 a4 a5 a6 a7 a8 a9 a10 a11 a12 a13 a14 a15 : Value) (w : World) : (Instr.index 84 (.agg #[a0, a1, a2, a3, a4, a5, a6, a7, a8, a9, a10, a11, a12, a13, a14, a15]) (.int .i64 2)).run Tryz.prog w = .ok (.agg #[a8, a9, a10, a11]) w := by kernel_rfl
theorem netsIx3 (a0 a1 a2 a3 a4 a5 a6 a7 a8 a9 a10 a11 a12 a13 a14 a15 : Value) (w : World) : (Instr.index 84 (.agg #[a0, a1, a2, a3, a4, a5, a6, a7, a8, a9, a10, a11, a12, a13, a14, a15]) (.int .i64 3)).run Tryz.prog w = .ok (.agg #[a12, a13, a14, a15]) w := by kernel_rfl
def rtsN (f : Nat → RtM) (k : Nat) : List RtM := (List.range k).flatMap fun j => rtN (f j)
theorem rtsN_succ (f : Nat → RtM) (k : Nat) : rtsN f (k + 1) = rtsN f k ++ rtN (f k) := by simp [rtsN, List.range_succ]
theorem rtsN_len (f : Nat → RtM) : ∀ k, (rtsN f k).length ≤ k
  | 0 => Nat.le_refl _
  | k + 1 => by
    rw [rtsN_succ, List.length_append]
    have := rtsN_len f k
    have : (rtN (f k)).length ≤ 1 := by unfold rtN; split <;> simp
    omega
theorem rtN_yes {x : RtM} (h : 0 < x.cost) : rtN x = [x] := if_pos h
theorem rtN_no {x : RtM} (h : ¬ 0 < x.cost) : rtN x = [] := if_neg h
theorem rtOf_len (self : Int) (L : List Nk) : (rtsOf self L).length ≤ L.length := by
  unfold rtsOf
  induction L with
  | nil => simp
  | cons n L ih =>
    rw [List.flatMap_cons, List.length_append, List.length_cons]
    have : (rtOf self n).length ≤ 1 := by unfold rtOf; split <;> simp
    omega
set_option maxHeartbeats 16000000 in
set_option maxRecDepth 100000 in
theorem Routes_any (self : Int) (A : Option Addr) (cap : Nat) (l : List Lsa) (w : World) (hl : RowsAt 9 Lsa.cells w w.heap.size A l) (he : ∀ x ∈ l, RowsAt 4 Lnk.cells w w.heap.size x.ka x.links ∧ RowsAt 1 icell w w.heap.size x.ma x.members) (hlens : ∀ x ∈ l, x.links.length ≤ 1000 ∧ x.members.length ≤ 1000) (hm : l.length ≤ 60) (nn : Nat) (hnn : nn = l.length) (E : List Ed) (hEe : edgesV (l.map vX) = E) (F : List Lf) (hFe : leavesV (l.map vX) = F) (DD : Vx → Vx → Option Val2) (hD : Dists E DD) :
    Calls Tryz.prog 7 #[.int .i64 self, .slice A nn cap] w fun r w' => (∃ v M L, r = .returned v ∧ RtsAt w' w.heap.size v M ∧ TreeOf E DD ⟨1, self⟩ L ∧ RoutesAre self L F (M.map RtM.rt)) ∧ Below w.heap.size w w' := by
  have hEl : E.length ≤ 2000 := by rw [← hEe]; exact edges_lenT _
  have hFl : F.length ≤ 100 := by rw [← hFe]; exact leaves_lenT _
  have hFok : LeavesOk F := by rw [← hFe]; exact leavesOk _
  have HIn := Lib.hid (fun W (hW : Below w.heap.size w W) => (show RowsAt 9 Lsa.cells W W.heap.size A l ∧ ∀ x ∈ l, RowsAt 4 Lnk.cells W W.heap.size x.ka x.links ∧ RowsAt 1 icell W W.heap.size x.ma x.members from ⟨(hl.below hW).more hW.size, fun x hx => ⟨((he x hx).1.below hW).more hW.size, ((he x hx).2.below hW).more hW.size⟩⟩))
  have HC := Lib.hid (fun W (hW : Below w.heap.size w W) => Edges_any A cap l W (HIn.out W hW).1 (HIn.out W hW).2 hlens (by omega) nn hnn)
  have HLv := Lib.hid (fun W (hW : Below w.heap.size w W) => Leaves_any A cap l W (HIn.out W hW).1 (HIn.out W hW).2 hlens (by omega) nn hnn)
  rw [hEe] at HC
  rw [hFe] at HLv
  have HFok := Lib.hid hFok
  have HFl := Lib.hid hFl
  have HEl := Lib.hid hEl
  have HD := Lib.hid hD
  have hb0 := below_new w (.cells (netC fun _ => rtZ) 84)
  have hk0 := Blk.new w 84 (netC fun _ => rtZ)
  obtain ⟨w0, hw0⟩ : ∃ v, w.alloc (.cells (netC fun _ => rtZ) 84) = v := ⟨_, rfl⟩
  obtain ⟨gN, hgN⟩ : ∃ v, w.heap.size = v := ⟨_, rfl⟩
  rw [hw0] at hb0 hk0
  rw [hgN] at hk0
  have Hb0 := Lib.hid hb0
  have Hk0 := Lib.hid hk0
  have HgN := Lib.hid hgN
  have hw0' : w.alloc (.cells #[.int .i64 0, .int .i64 0, .int .i64 0, .slice none 0 0, .int .i64 0, .int .i64 0, .int .i64 0, .slice none 0 0, .int .i64 0, .int .i64 0, .int .i64 0, .slice none 0 0, .int .i64 0, .int .i64 0, .int .i64 0, .slice none 0 0] 84) = w0 := hw0
  clear hl he hlens hm hnn hEe hFe hEl hFl hFok hD hb0 hk0 hw0 HIn
  go_enter Tryz.func7, Tryz.ntmps7
  go_wp2_with fail
  with_reducible refine Calls.mono (HC.out _ Hb0.out) ?_
  clear hw0' hgN
  rintro r w1 ⟨⟨v1, rfl, hx1⟩, hb1⟩
  obtain ⟨A1, c1, hv1⟩ := hx1.shape
  subst hv1
  have Hb1 := Lib.hid (below_trans Hb0.out Hb0.out.size hb1)
  have Hk1 := Lib.hid (Hk0.out.below hb1 Hk0.out.lt)
  have hgB : gN < w1.heap.size := Nat.lt_of_lt_of_le Hk0.out.lt hb1.size
  have HgB := Lib.hid hgB
  have HT := Lib.hid (Tree_any self A1 c1 E w1 (OwnR.rows (C := 5) (cells := Ed.cells) (fun _ => rfl) hx1).2 (by have := HEl.out; omega) E.length rfl DD HD.out)
  clear hb1 hx1 hgB
  go_wp2_with fail
  with_reducible refine Calls.mono HT.out ?_
  rintro r w2 ⟨⟨v2, N, rfl, hN, hT⟩, hb2⟩
  have HTr := Lib.hid hT
  have hOk := nodesOk HD.out (by have := HEl.out; omega) hT
  have HOk := Lib.hid hOk
  have hlow0 := hOk.low hT
  have Hlow := Lib.hid (show ∀ x ∈ N, x.next.length ≤ 64 from fun x hx => hlow0 x.nk (List.mem_map.2 ⟨x, hx, rfl⟩))
  have HNl := Lib.hid (treeOf_len HD.out hT)
  obtain ⟨A2, c2, hv2⟩ := hN.row.shape
  subst hv2
  obtain ⟨nN, hnN⟩ : ∃ n, N.length = n := ⟨_, rfl⟩
  rw [hnN] at hN ⊢
  have HnN := Lib.hid hnN
  have HN := Lib.hid hN
  have hnNi : (nN : Int) ≤ 79 := by have := HNl.out; omega
  have Hb2 := Lib.hid (below_trans Hb1.out Hb1.out.size hb2)
  have hnets : NetsAt w2 w1.heap.size gN (fun _ => rtZ) := ⟨Hk1.out.below hb2 Hk1.out.lt, fun k _ => OwnR.nil _ _⟩
  have Hnets := Lib.hid hnets
  have Hs2 := Lib.hid (show w1.heap.size ≤ w2.heap.size from hb2.size)
  clear hT hOk hlow0 hN hnN hnets hb2 HT HC
  go_wp2_with fail
  go_loopw [5, 22] (fun o i wr => ∃ (k n c : Nat) (Ao : Option Addr) (M : List RtM) (f : Nat → RtM), i = .int .i64 k ∧ k ≤ nN ∧ o = .slice Ao n c ∧ M.length = n ∧ w2.grownBy wr (some gN) ∧ RtsAt wr w2.heap.size (.slice Ao n c) M ∧ M.map RtM.rt = rtsOf self ((N.take k).map NodeM.nk) ∧ NetsAt wr w1.heap.size gN f ∧ AllOk f (fun lan => nodeEnds lan ((N.take k).map NodeM.nk))) (fun _ i _ => nN - (intOf i).toNat)
  case atStart => exact ⟨0, 0, 0, none, [], fun _ => rtZ, rfl, Nat.zero_le _, rfl, rfl, World.grownBy.refl _ _, ⟨OwnR.nil _ _, by simp⟩, rfl, Hnets.out, AllOk.start fun _ _ => rfl⟩
  case round =>
    obtain ⟨k, n, c, Ao, M, f, rfl, hk, rfl, hMn, hg, hR, hM, hNt, hAll⟩ := hrel
    have HMn := Lib.hid hMn
    have HG := Lib.hid hg
    have HR := Lib.hid hR
    have HM := Lib.hid hM
    have HNt := Lib.hid hNt
    have HAll := Lib.hid hAll
    have hwr : w1.heap.size ≤ wr.heap.size := Nat.le_trans Hs2.out hg.size
    have Hwr := Lib.hid hwr
    by_cases hlt : k < nN
    · have hki : (k : Int) < (nN : Int) := by omega
      have hkL : k < N.length := by rw [HnN.out]; exact hlt
      have hNd := HN.out.kept hg HgB.out
      have htk : (N.take (k + 1)).map NodeM.nk = (N.take k).map NodeM.nk ++ [(N[k]'hkL).nk] := by rw [List.take_succ_eq_append_getElem hkL, List.map_append]; rfl
      have hin : (N[k]'hkL) ∈ N := List.getElem_mem hkL
      have hmk := HOk.out.may _ (List.mem_map.2 ⟨_, hin, rfl⟩)
      have hcst := HOk.out.cost _ (List.mem_map.2 ⟨_, hin, rfl⟩)
      have hnet := HOk.out.net _ (List.mem_map.2 ⟨_, hin, rfl⟩)
      have hhops := HOk.out.hops _ (List.mem_map.2 ⟨_, hin, rfl⟩)
      have hlw := Hlow.out _ hin
      have heach := hNd.each _ hin
      have hlt' := hlt
      obtain ⟨gr, og, hA, -, x0, x1, x2, x3, x4⟩ := row_nd (OwnR.rows (C := 5) (cells := NodeM.cells) (fun _ => rfl) hNd.row).2 k hkL
      have Hlt := Lib.hid hlt
      generalize (N[k]'hkL) = x at *
      obtain ⟨⟨xk, xi⟩, ⟨xa, xh⟩, xA, xc, xn⟩ := x
      simp only [NodeM.nk, NodeM.nv] at x0 x1 x2 x3 x4 htk hmk hcst hnet hhops hlw heach
      obtain ⟨nl, hnl⟩ : ∃ n, xn.length = n := ⟨_, rfl⟩
      rw [hnl] at x4 heach
      have Hnl := Lib.hid hnl
      have Htk := Lib.hid htk
      have Hlw := Lib.hid hlw
      have Hhops := Lib.hid hhops
      have Hcst := Lib.hid hcst
      have hb6 := below_new wr (.cells #[.int .i64 xk, .int .i64 xi, .int .i64 xa, .int .i64 xh, .slice xA nl xc] 90)
      have hk6 := Blk.new wr 90 #[.int .i64 xk, .int .i64 xi, .int .i64 xa, .int .i64 xh, .slice xA nl xc]
      obtain ⟨w6, hw6⟩ : ∃ v, wr.alloc (.cells #[.int .i64 xk, .int .i64 xi, .int .i64 xa, .int .i64 xh, .slice xA nl xc] 90) = v := ⟨_, rfl⟩
      obtain ⟨g9, hg9⟩ : ∃ v, wr.heap.size = v := ⟨_, rfl⟩
      rw [hw6, hg9] at hk6
      rw [hw6] at hb6
      have HG6 := Lib.hid (grown_below hg hb6)
      have HR6 := Lib.hid (hR.below hb6)
      have HN6 := Lib.hid (hNt.below hb6)
      have HX6 := Lib.hid (heach.below hb6)
      have HK6 := Lib.hid hk6
      have Hwr6 := Lib.hid (Nat.le_trans hwr hb6.size)
      subst hA
      obtain ⟨⟨z0, z1, z2, z3, z4⟩, -⟩ := blk5 hk6
      have hsh := shr16 xi
      rcases mayV_iff.1 hmk with ⟨h1, h2, h3⟩ | ⟨h1, h2, h3⟩
      · simp only at h1 h2 h3
        subst h1
        have hne : ∀ lan : Int, nodeEnd lan ⟨⟨1, xi⟩, ⟨xa, xh⟩, xn⟩ = [] := fun lan => nodeEnd_ne (fun h => by have := h.1; simp only at this; omega)
        have Hne := Lib.hid hne
        clear hMn hg hR hM hNt hAll hwr hlt hlt' hkL hNd htk hin hmk hcst hnet hhops hlw heach hk hb6 hk6 hnl h2 h3 hsh hne
        by_cases hs : xi = self
        · have e1 : (xi != self) = false := by simp [hs]
          have Hro := Lib.hid (show rtOf self ⟨⟨1, xi⟩, ⟨xa, xh⟩, xn⟩ = [] from if_neg fun h => h.2 hs)
          clear hs
          go_wp2
          go_roundw
          case measure => have := Hlt.out; simp [intOf]; omega
          case rel => exact ⟨k + 1, n, c, Ao, M, f, by go_num, Hlt.out, rfl, HMn.out, HG6.out, HR6.out, by rw [Htk.out, rtsOf_snoc, HM.out, Hro.out, List.append_nil], HN6.out, HAll.out.same fun j _ => by rw [Htk.out, nodeEnds_snoc, Hne.out, List.append_nil]⟩
        · have e1 : (xi != self) = true := by simp [hs]
          have Hro := Lib.hid (show rtOf self ⟨⟨1, xi⟩, ⟨xa, xh⟩, xn⟩ = [⟨1, xi, xa, xn⟩] from if_pos ⟨rfl, hs⟩)
          clear hs
          have hMl : M.length ≤ 79 := by
            have h1 := congrArg List.length HM.out
            have h2 := rtOf_len self ((N.take k).map NodeM.nk)
            rw [List.length_map] at h1
            rw [List.length_map, List.length_take] at h2
            have := HNl.out
            omega
          have HMl := Lib.hid hMl
          clear hMl
          go_wp2
          refine wp_region_F (F := fun W => Blk W g9 90 #[.int .i64 1, .int .i64 xi, .int .i64 xa, .int .i64 xh, .slice xA nl xc]) (n := 12) (m := 13) (s := #[false, false, false, false, false, false, false, false, false, false, false, false, false]) (by kernel_rfl) (by kernel_rfl) (by kernel_rfl) ?_
          intro wd hwd
          have hF : (fun W => Blk W g9 90 #[.int .i64 1, .int .i64 xi, .int .i64 xa, .int .i64 xh, .slice xA nl xc]) wd := by rw [hwd.out]; exact HK6.out.drew
          have hbd : Below w6.heap.size w6 wd := by rw [hwd.out]; exact (Below.refl _ _).drew
          have hszd : w2.heap.size ≤ wd.heap.size := Nat.le_trans HG6.out.size hbd.size
          clear hwd
          refine F_take (i := 0) (d := some 44) (by kernel_rfl) (by kernel_rfl) (by decide) (s' := #[true, false, false, false, false, false, false, false, false, false, false, false, false]) (by kernel_rfl) rfl rfl (by kernel_rfl) (by kernel_rfl) (by kernel_rfl) (fun _ _ _ h => h) (Or.inl ⟨by kernel_rfl, fun W hW => by go_simp; try with_reducible rfl⟩) hF ?_
          go_frame
          refine F_take (i := 1) (d := some 45) (by kernel_rfl) (by kernel_rfl) (by decide) (s' := #[true, true, false, false, false, false, false, false, false, false, false, false, false]) (by kernel_rfl) rfl rfl (by kernel_rfl) (by kernel_rfl) (by kernel_rfl) (fun _ _ _ h => h) (Or.inl ⟨by kernel_rfl, fun W hW => by go_simp; try with_reducible rfl⟩) hF ?_
          go_frame
          refine F_take (i := 2) (d := some 46) (by kernel_rfl) (by kernel_rfl) (by decide) (s' := #[true, true, true, false, false, false, false, false, false, false, false, false, false]) (by kernel_rfl) rfl rfl (by kernel_rfl) (by kernel_rfl) (by kernel_rfl) (fun _ _ _ h => h) (Or.inl ⟨by kernel_rfl, fun W hW => by go_simp; try with_reducible rfl⟩) hF ?_
          go_frame
          refine F_take (i := 3) (d := some 47) (by kernel_rfl) (by kernel_rfl) (by decide) (s' := #[true, true, true, true, false, false, false, false, false, false, false, false, false]) (by kernel_rfl) rfl rfl (by kernel_rfl) (by kernel_rfl) (by kernel_rfl) (fun _ _ _ h => h) (Or.inl ⟨by kernel_rfl, fun W hW => by obtain ⟨⟨q0, q1, q2, q3, q4⟩, -⟩ := blk5 hW; go_simp; try with_reducible rfl⟩) hF ?_
          go_frame
          refine F_take (i := 4) (d := some 48) (by kernel_rfl) (by kernel_rfl) (by decide) (s' := #[true, true, true, true, true, false, false, false, false, false, false, false, false]) (by kernel_rfl) rfl rfl (by kernel_rfl) (by kernel_rfl) (by kernel_rfl) (fun _ _ _ h => h) (Or.inl ⟨by kernel_rfl, fun W hW => by go_simp; try with_reducible rfl⟩) hF ?_
          go_frame
          refine F_take (i := 5) (d := some 49) (by kernel_rfl) (by kernel_rfl) (by decide) (s' := #[true, true, true, true, true, true, false, false, false, false, false, false, false]) (by kernel_rfl) rfl rfl (by kernel_rfl) (by kernel_rfl) (by kernel_rfl) (fun _ _ _ h => h) (Or.inl ⟨by kernel_rfl, fun W hW => by obtain ⟨⟨q0, q1, q2, q3, q4⟩, -⟩ := blk5 hW; go_simp; try with_reducible rfl⟩) hF ?_
          go_frame
          refine F_take (i := 6) (d := some 50) (by kernel_rfl) (by kernel_rfl) (by decide) (s' := #[true, true, true, true, true, true, true, false, false, false, false, false, false]) (by kernel_rfl) rfl rfl (by kernel_rfl) (by kernel_rfl) (by kernel_rfl) (fun _ _ _ h => h) (Or.inl ⟨by kernel_rfl, fun W hW => by go_simp; try with_reducible rfl⟩) hF ?_
          go_frame
          refine F_take (i := 7) (d := some 51) (by kernel_rfl) (by kernel_rfl) (by decide) (s' := #[true, true, true, true, true, true, true, true, false, false, false, false, false]) (by kernel_rfl) rfl rfl (by kernel_rfl) (by kernel_rfl) (by kernel_rfl) (fun _ _ _ h => h) (Or.inl ⟨by kernel_rfl, fun W hW => by obtain ⟨⟨q0, q1, q2, q3, q4⟩, -⟩ := blk5 hW; go_simp; try with_reducible rfl⟩) hF ?_
          go_frame
          refine F_one (i := 8) (s' := #[true, true, true, true, true, true, true, true, true, false, false, false, false]) (by kernel_rfl) (by kernel_rfl) (wpOp_enterL (i := 8) (d := some 52) (f := 30) (args := #[.slice xA nl xc]) rfl rfl (by kernel_rfl) (by go_simp) ((cloneHp xA xc xn wd wd.heap.size (OwnR.rows (C := 2) (cells := Hp.cells) (fun _ => rfl) (HX6.out.below hbd)).2 (Nat.le_refl _) (by have := Hlw.out; omega) nl Hnl.out.symm).mono ?_))
          rintro r wc ⟨v, rfl, hoc, hbc⟩
          obtain ⟨Ac, cc, hvc⟩ := hoc.shape
          subst hvc
          rw [Hnl.out] at hoc ⊢
          have hF := show (fun W => Blk W g9 90 #[.int .i64 1, .int .i64 xi, .int .i64 xa, .int .i64 xh, .slice xA nl xc]) wc from hF.below hbc hF.lt
          have hbd := below_trans hbd hbd.size hbc
          refine ⟨_, rfl, fun _ => hF, ?_⟩
          go_frame
          clear hbc
          refine F_take (i := 9) (d := some 53) (by kernel_rfl) (by kernel_rfl) (by decide) (s' := #[true, true, true, true, true, true, true, true, true, true, false, false, false]) (by kernel_rfl) rfl rfl (by kernel_rfl) (by kernel_rfl) (by kernel_rfl) (fun _ _ _ h => h) (Or.inl ⟨by kernel_rfl, fun W hW => by go_simp; try with_reducible rfl⟩) hF ?_
          go_frame
          obtain ⟨wq, hV⟩ : ∃ v, wc.alloc (.cells #[.int .i64 1, .int .i64 xi, .int .i64 xa, .slice Ac nl cc] 44) = v := ⟨_, rfl⟩
          have hbq := below_new wc (.cells #[.int .i64 1, .int .i64 xi, .int .i64 xa, .slice Ac nl cc] 44)
          have kq := Blk.new wc 44 #[.int .i64 1, .int .i64 xi, .int .i64 xa, .slice Ac nl cc]
          obtain ⟨pq, hpq⟩ : ∃ p, wc.heap.size = p := ⟨_, rfl⟩
          rw [hV] at hbq kq
          rw [hpq] at kq
          have hF := show (fun W => Blk W g9 90 #[.int .i64 1, .int .i64 xi, .int .i64 xa, .int .i64 xh, .slice xA nl xc]) wq from hF.below hbq hF.lt
          have hbd := below_trans hbd hbd.size hbq
          have hoq := hoc.below hbq
          refine F_one (i := 10) (s' := #[true, true, true, true, true, true, true, true, true, true, true, false, false]) (by kernel_rfl) (by kernel_rfl) (wpOp_valueL (i := 10) (d := some 54) (w' := wq) (v := .slice (some ⟨pq, 0, none⟩) 1 1) rfl rfl (by kernel_rfl) (by go_simp) ⟨fun _ => hF, ?_⟩)
          go_frame
          clear hV hpq
          have hRq := HR6.out.below hbd
          have hNq := HN6.out.below hbd
          obtain ⟨va, wa, hrun, hoa, hg2, hor⟩ := app_row_run (e := 44) (sl := 33) RtM.cells (fun _ => rfl) (by decide) (bytes := 48) (by decide) infoRt rfl Tryz.underlying33 onesRt (w := wq) 33 w2.heap.size (.slice Ao n c) M hRq.row pq ⟨1, xi, xa, Ac, cc, xn⟩ (by unfold RtM.cells; simp only; rw [Hnl.out]; exact kq) (by have := HMl.out; omega) (Nat.le_trans HG6.out.size hbd.size)
          have hne := own_ne_some hRq.row hF (by decide)
          have hF := show (fun W => Blk W g9 90 #[.int .i64 1, .int .i64 xi, .int .i64 xa, .int .i64 xh, .slice xA nl xc]) wa from hF.grown hg2 hne
          refine F_one (i := 11) (s' := #[true, true, true, true, true, true, true, true, true, true, true, true, false]) (by kernel_rfl) (by kernel_rfl) (wpOp_appendL (i := 11) (d := some 55) (t := 33) rfl rfl rfl (by kernel_rfl) rfl (by rfl) (by rfl) hrun ⟨fun _ => hF, ?_⟩)
          go_frame
          clear hrun
          have hRz := hRq.app (x := ⟨1, xi, xa, Ac, cc, xn⟩) hg2 hoa (by unfold RtM.nv; simp only; rw [Hnl.out]; exact OwnR.lower hoq hszd)
          have hNz := hNq.grown hg2 (fun b e => ⟨by have := (hRq.row.block b e).1; have := HgB.out; have := Hs2.out; omega, fun j hj e2 => (own_two (hNq.own j hj) hRq.row (by decide)).elim (fun g => by rw [g] at e2; cases e2) (fun g => g (e2.trans e.symm))⟩)
          have hGz := grown_comp (grown_below HG6.out hbd) hg2 (fun b e => .inl (hRq.row.block b e).1)
          obtain ⟨Aa, ca, hva⟩ := hoa.shape
          subst hva
          refine F_one (i := 12) (s' := #[true, true, true, true, true, true, true, true, true, true, true, true, true]) (by kernel_rfl) (by kernel_rfl) (wpOp_valueL (i := 12) (d := some 5) (w' := wa) (v := .slice Aa (M ++ [(⟨1, xi, xa, Ac, cc, xn⟩ : RtM)]).length ca) rfl rfl (by kernel_rfl) (by go_simp) ⟨fun h => absurd h (by decide), ?_⟩)
          go_frame
          refine F_done (by kernel_rfl) ?_ _
          have HRz := Lib.hid hRz
          have HNz := Lib.hid hNz
          have HGz := Lib.hid hGz
          clear hRz hNz hGz hF hoa hg2 hor kq hne hRq hNq hbd hbq hoc hoq hszd
          go_wp2
          go_roundw
          case measure => have := Hlt.out; simp [intOf]; omega
          case rel => exact ⟨k + 1, _, _, _, _, f, by go_num, Hlt.out, rfl, rfl, HGz.out, HRz.out, by rw [Htk.out, rtsOf_snoc, List.map_append, HM.out, Hro.out]; rfl, HNz.out, HAll.out.same fun j _ => by rw [Htk.out, nodeEnds_snoc, Hne.out, List.append_nil]⟩
      · simp only at h1 h2 h3
        subst h1
        obtain ⟨k0, hk0e⟩ : ∃ k0 : Nat, (k0 : Int) = xi / 16 := ⟨(xi / 16).toNat, by omega⟩
        have hk4 : k0 < 4 := by omega
        have hdv : xi / 16 = (k0 : Int) := hk0e.symm
        have hx1 : 1 ≤ xa := hnet rfl
        have hAk := HAll.out k0 hk4
        have HE := Lib.hid (end_any gN k0 xa nl xc xA xn w6 w1.heap.size f (nodeEnds k0 ((N.take k).map NodeM.nk)) hk4 hx1 (by omega) HX6.out hnl (by omega) Hwr6.out HgB.out HN6.out hAk.1 (HAll.out.low hk4) hAk.2.1)
        have Hk4 := Lib.hid hk4
        have Hk0e := Lib.hid hk0e
        have Hro := Lib.hid (show rtOf self ⟨⟨2, xi⟩, ⟨xa, xh⟩, xn⟩ = [] from if_neg fun h => by have := h.1; simp only at this; omega)
        clear hMn hg hR hM hNt hAll hwr hlt hlt' hkL hNd htk hin hmk hcst hnet hhops hlw heach hk hb6 hk6 hnl h2 h3 hk4 hk0e hx1 hAk
        go_wp2_with fail
        with_reducible refine Calls.mono HE.out ?_
        clear x0 x1 x2 x3 x4 z0 z1 z2 z3 z4 hsh hdv hw6 hg9
        rintro r w7 ⟨rfl, ⟨x', hN7, hOk7, hc7⟩, hg7⟩
        have HN7 := Lib.hid hN7
        have HG7 := Lib.hid (grown_trans HG6.out hg7)
        have HR7 := Lib.hid (HR6.out.past hg7 (Nat.lt_of_lt_of_le HgB.out Hs2.out))
        have HA7 := Lib.hid (HAll.out.put (X' := fun lan => nodeEnds lan ((N.take (k + 1)).map NodeM.nk)) (p := (xa, xn)) hOk7 hc7 Hhops.out (by rw [Htk.out, nodeEnds_snoc, nodeEnd_at rfl (show xi / 16 = (k0 : Int) from Hk0e.out.symm)]) (fun j hj hne => by
          rw [Htk.out, nodeEnds_snoc, nodeEnd_ne (fun h => hne (by have h2 : xi / 16 = (j : Int) := h.2; have := Hk0e.out; omega)), List.append_nil]))
        clear hN7 hOk7 hc7 hg7
        go_wp2
        go_roundw
        case measure => have := Hlt.out; simp [intOf]; omega
        case rel => exact ⟨k + 1, n, c, Ao, M, updN f k0 x', by go_num, Hlt.out, rfl, HMn.out, HG7.out, HR7.out, by rw [Htk.out, rtsOf_snoc, HM.out, Hro.out, List.append_nil], HN7.out, HA7.out⟩
    · have hke : k = nN := by omega
      have hkk : ¬ (k : Int) < (nN : Int) := by omega
      rw [hke, ← HnN.out, List.take_length] at hM hAll
      have HME := Lib.hid hM
      have HAE := Lib.hid hAll
      have hbw : Below w.heap.size w wr := Hb2.out.grown hg Hb2.out.size (fun m e => by injection e with e; rw [← e, ← HgN.out]; exact Nat.le_refl _)
      have Hbw := Lib.hid hbw
      have HNE := Lib.hid (HN.out.kept hg HgB.out)
      obtain ⟨wL, hwL⟩ : ∃ x : World, x = wr := ⟨_, rfl⟩
      rw [← hwL] at HG HR HNt Hwr Hbw HNE
      subst hwL
      clear hMn hg hR hM hNt hAll hwr hlt hke hk HM HAll hbw
      go_wp2_with fail
      with_reducible refine Calls.mono (HLv.out _ Hbw.out) ?_
      rintro r w3 ⟨⟨v3, rfl, hx3⟩, hb3⟩
      obtain ⟨A3, c3, hv3⟩ := hx3.shape
      subst hv3
      obtain ⟨nF, hnF⟩ : ∃ n, F.length = n := ⟨_, rfl⟩
      rw [hnF] at hx3 ⊢
      have HnF := Lib.hid hnF
      have hnFi : (nF : Int) ≤ 100 := by have := HFl.out; omega
      have HX3 := Lib.hid hx3
      have HR3 := Lib.hid (HR.out.below hb3)
      have HN3 := Lib.hid (HNt.out.below hb3)
      have HNd3 := Lib.hid (show NodesAt w3 w1.heap.size (.slice A2 nN c2) N from ⟨HNE.out.row.below hb3, fun x hx => (HNE.out.each x hx).below hb3⟩)
      have Hbw3 := Lib.hid (below_trans Hbw.out Hbw.out.size hb3)
      have Hw3 := Lib.hid (Nat.le_trans Hwr.out hb3.size)
      have HgL3 := Lib.hid (show gN < w3.heap.size from Nat.lt_of_lt_of_le (Nat.lt_of_lt_of_le HgB.out Hwr.out) hb3.size)
      have HgL := Lib.hid (show gN < wL.heap.size from Nat.lt_of_lt_of_le HgB.out Hwr.out)
      clear hx3 hb3 hnF
      go_wp2_with fail
      go_loopw [60] (fun i wr => ∃ (k : Nat) (f : Nat → RtM), i = .int .i64 k ∧ k ≤ nF ∧ w3.grownBy wr (some gN) ∧ NetsAt wr w1.heap.size gN f ∧ AllOk f (fun lan => nodeEnds lan (N.map NodeM.nk) ++ leafEnds self lan (N.map NodeM.nk) (F.take k))) (fun i _ => nF - (intOf i).toNat)
      case atStart => exact ⟨0, f, rfl, Nat.zero_le _, World.grownBy.refl _ _, HN3.out, HAE.out.same fun j _ => by simp [leafEnds]⟩
      case round =>
        obtain ⟨k2, f, rfl, hk, hg, hNt, hAll⟩ := hrel
        have HG := Lib.hid hg
        have HNt := Lib.hid hNt
        have HAll := Lib.hid hAll
        have hwr : w1.heap.size ≤ wr.heap.size := Nat.le_trans Hw3.out hg.size
        have Hwr := Lib.hid hwr
        by_cases hlt : k2 < nF
        · have hki : (k2 : Int) < (nF : Int) := by omega
          have hkF : k2 < F.length := by rw [HnF.out]; exact hlt
          have htk : F.take (k2 + 1) = F.take k2 ++ [F[k2]'hkF] := List.take_succ_eq_append_getElem hkF
          have hfo := HFok.out _ (List.getElem_mem hkF)
          have hXr := HX3.out.past hg HgL.out
          obtain ⟨bF, oF, hAF, -, f0, f1, f2⟩ := row_lf (OwnR.rows (C := 3) (cells := Lf.cells) (fun _ => rfl) hXr).2 k2 hkF
          have Hlt2 := Lib.hid hlt
          generalize (F[k2]'hkF) = fx at *
          obtain ⟨fr, fl, fc⟩ := fx
          simp only at f0 f1 f2 hfo
          subst hAF
          have HtkF := Lib.hid htk
          obtain ⟨⟨hr1, hr2⟩, ⟨hl1, hl2⟩, hc1, hc2⟩ := hfo
          obtain ⟨k0, hk0⟩ : ∃ k0 : Nat, (k0 : Int) = fl := ⟨fl.toNat, by omega⟩
          obtain ⟨cf, hcf⟩ : ∃ cf : Nat, (cf : Int) = fc := ⟨fc.toNat, by omega⟩
          subst hk0 hcf
          have hk4 : k0 < 4 := by omega
          have Hk4 := Lib.hid hk4
          have Hcf := Lib.hid (show 1 ≤ cf ∧ cf ≤ 100 by omega)
          have hb6 := below_new wr (.cells #[.int .i64 fr, .int .i64 k0, .int .i64 cf] 99)
          have hk6 := Blk.new wr 99 #[.int .i64 fr, .int .i64 k0, .int .i64 cf]
          obtain ⟨w6, hw6⟩ : ∃ v, wr.alloc (.cells #[.int .i64 fr, .int .i64 k0, .int .i64 cf] 99) = v := ⟨_, rfl⟩
          obtain ⟨g6, hg6⟩ : ∃ v, wr.heap.size = v := ⟨_, rfl⟩
          rw [hw6, hg6] at hk6
          rw [hw6] at hb6
          have HG6 := Lib.hid (grown_below hg hb6)
          have HN6 := Lib.hid (hNt.below hb6)
          have HK6 := Lib.hid hk6
          have Hwr6 := Lib.hid (Nat.le_trans hwr hb6.size)
          have hNd6 : NodesAt w6 w1.heap.size (.slice A2 nN c2) N := by
            have h := HNd3.out.kept hg HgB.out
            exact ⟨h.row.below hb6, fun x hx => (h.each x hx).below hb6⟩
          have HFi := Lib.hid (Find_any 1 fr A2 c2 nN N w6 (hNd6.ins2 Hlow.out) (by have := HNl.out; omega) HnN.out.symm)
          obtain ⟨l0, l1, l2⟩ : _ ∧ _ ∧ _ := ⟨hk6.cell 0, hk6.cell 1, hk6.cell 2⟩
          simp only [List.getElem?_toArray, List.getElem?_cons_zero, List.getElem?_cons_succ] at l0 l1 l2
          clear hg hNt hAll hwr hlt hkF htk hXr hk hb6 hk6 hNd6 hr1 hr2 hl1 hl2 hc1 hc2 hk4
          go_wp2_with fail
          clear f0 f1 f2 l0 l1 l2 hw6 hg6
          with_reducible refine Calls.mono HFi.out ?_
          rintro r w7 ⟨hfo, hb7⟩
          have HG7 := Lib.hid (grown_below HG6.out hb7)
          have HN7 := Lib.hid (HN6.out.below hb7)
          have HK7 := Lib.hid (HK6.out.below hb7 HK6.out.lt)
          have Hwr7 := Lib.hid (Nat.le_trans Hwr6.out hb7.size)
          have Hfl := Lib.hid (fun lan : Int => leaf_flat (self := self) (lan := lan) (f := ⟨fr, (k0 : Int), (cf : Int)⟩) HOk.out.sorted)
          rcases hfo with ⟨x, A14, c14, hx, rfl, ho⟩ | ⟨hx, rfl⟩
          rotate_left
          · have hnil : ∀ lan : Int, (N.map NodeM.nk).flatMap (leafEnd self lan ⟨fr, (k0 : Int), (cf : Int)⟩) = [] := fun lan => by
              have h := Hfl.out lan
              unfold findN at hx
              simp only at h
              rw [hx] at h
              exact h
            have Hnil := Lib.hid hnil
            have hb8 := below_new w7 (.cells #[.int .i64 0, .int .i64 0, .int .i64 0, .int .i64 0, .slice none 0 0] 90)
            have HG8 := Lib.hid (grown_below HG7.out hb8)
            have HN8 := Lib.hid (HN7.out.below hb8)
            clear hx hb7 hnil hb8
            go_wp2
            go_roundw
            case measure => have := Hlt2.out; simp [intOf]; omega
            case rel => exact ⟨k2 + 1, f, by go_num, Hlt2.out, HG8.out, HN8.out, HAll.out.same fun j _ => by rw [HtkF.out, leafEnds_snoc, Hnil.out, List.append_nil]⟩
          · have hxm : x ∈ N.map NodeM.nk := List.mem_of_find?_eq_some hx
            have hxv : x.v = ⟨1, fr⟩ := by have h := List.find?_some hx; simpa using h
            have hfl : ∀ lan : Int, (N.map NodeM.nk).flatMap (leafEnd self lan ⟨fr, (k0 : Int), (cf : Int)⟩) = leafEnd self lan ⟨fr, (k0 : Int), (cf : Int)⟩ x := fun lan => by
              have h := Hfl.out lan
              unfold findN at hx
              simp only at h
              rw [hx] at h
              exact h
            have hcst := HOk.out.cost x hxm
            have hhops := HOk.out.hops x hxm
            obtain ⟨y, hy, hyx⟩ := List.mem_map.1 hxm
            have hlw : x.next.length ≤ 64 := by rw [← hyx]; exact Hlow.out y hy
            obtain ⟨⟨q1, q2⟩, ⟨q3, q4⟩, qn⟩ := x
            simp only at hxv hcst hhops hlw ho ⊢
            obtain ⟨nq, hnq⟩ : ∃ n, qn.length = n := ⟨_, rfl⟩
            rw [hnq] at ho ⊢
            have Hnq := Lib.hid hnq
            have Hhops := Lib.hid hhops
            have Hlw := Lib.hid hlw
            have Hfe := Lib.hid hfl
            have Hxv := Lib.hid hxv
            have Hcst := Lib.hid hcst
            have Ho := Lib.hid (OwnR.lower ho Hwr6.out)
            have hb8 := below_new w7 (.cells #[.int .i64 q1, .int .i64 q2, .int .i64 q3, .int .i64 q4, .slice A14 nq c14] 90)
            have hk8 := Blk.new w7 90 #[.int .i64 q1, .int .i64 q2, .int .i64 q3, .int .i64 q4, .slice A14 nq c14]
            obtain ⟨w8, hw8⟩ : ∃ v, w7.alloc (.cells #[.int .i64 q1, .int .i64 q2, .int .i64 q3, .int .i64 q4, .slice A14 nq c14] 90) = v := ⟨_, rfl⟩
            obtain ⟨g8, hg8⟩ : ∃ v, w7.heap.size = v := ⟨_, rfl⟩
            rw [hw8, hg8] at hk8
            rw [hw8] at hb8
            have HG8 := Lib.hid (grown_below HG7.out hb8)
            have HN8 := Lib.hid (HN7.out.below hb8)
            have HK8 := Lib.hid (HK7.out.below hb8 HK7.out.lt)
            have HO8 := Lib.hid (Ho.out.below hb8)
            have HE8 := Lib.hid hk8
            have Hwr8 := Lib.hid (Nat.le_trans Hwr7.out hb8.size)
            have hg8w : w3.heap.size ≤ g8 := by rw [← hg8]; exact HG7.out.size
            have Hg8w := Lib.hid hg8w
            obtain ⟨cs, hcs⟩ : ∃ cs : Nat, q3 + cf = cs := ⟨_, rfl⟩
            have hcsi : (q3 : Int) + (cf : Int) = (cs : Int) := by omega
            have hcs2 : cs ≤ 200000000 := by have := Hcf.out; omega
            have Hwrap := Lib.hid (wrap_small (z := (cs : Int)) (by omega) (by omega))
            have Hcs := Lib.hid hcs
            have Hcs2 := Lib.hid hcs2
            have Hcs1 := Lib.hid (show 1 ≤ cs by have := Hcf.out; omega)
            obtain ⟨⟨e0, e1, e2, e3, e4⟩, ef0, ef1, ef2, ef3, ef4⟩ := blk5 hk8
            obtain ⟨l0, l1, l2⟩ : _ ∧ _ ∧ _ := ⟨HK8.out.cell 0, HK8.out.cell 1, HK8.out.cell 2⟩
            simp only [List.getElem?_toArray, List.getElem?_cons_zero, List.getElem?_cons_succ] at l0 l1 l2
            clear hx hb7 ho hb8 hk8 hxm hxv hfl hcst hhops hlw hnq hy hyx hcs hcs2 hg8w
            by_cases hs : fr = self
            · have es : (fr == self) = true := by simp [hs]
              have hle := fun (lan : Int) (h : (k0 : Int) = lan) => leafEnd_at (self := self) (lan := lan) (f := ⟨fr, (k0 : Int), (cf : Int)⟩) (n := ⟨⟨q1, q2⟩, ⟨q3, q4⟩, qn⟩) h Hxv.out
              simp only [if_pos hs] at hle
              have Hle := Lib.hid hle
              have hbh := below_new w8 (.cells #[.int .i64 k0, .int .i64 0] 95)
              have hkh := Blk.new w8 95 #[.int .i64 k0, .int .i64 0]
              obtain ⟨wh, hwh⟩ : ∃ v, w8.alloc (.cells #[.int .i64 k0, .int .i64 0] 95) = v := ⟨_, rfl⟩
              obtain ⟨gh, hgh⟩ : ∃ v, w8.heap.size = v := ⟨_, rfl⟩
              rw [hwh, hgh] at hkh
              rw [hwh] at hbh
              have heh := HE8.out.below hbh HE8.out.lt
              have hnh := HN8.out.below hbh
              have hlh := HK8.out.below hbh HK8.out.lt
              have hghb : w1.heap.size ≤ gh := by rw [← hgh]; exact Hwr8.out
              have hg8h : g8 ≠ gh := by have := HE8.out.lt; omega
              have hg68 : g6 ≠ g8 := by have := HK7.out.lt; have := Hg8w.out; omega
              have hGh := grown_below HG8.out hbh
              obtain ⟨⟨e0', e1', e2', e3', e4'⟩, ef0', ef1', ef2', ef3', ef4'⟩ := blk5 heh
              obtain ⟨wi, hwi⟩ : ∃ v, wh.setCell ⟨g8, 4, none⟩ (.slice (some ⟨gh, 0, none⟩) 1 1) = v := ⟨_, rfl⟩
              have hei := (heh.set_ 4 (.slice (some ⟨gh, 0, none⟩) 1 1)).to (cs' := #[.int .i64 q1, .int .i64 q2, .int .i64 q3, .int .i64 q4, .slice (some ⟨gh, 0, none⟩) 1 1]) (by simp)
              have hni : NetsAt (wh.setCell ⟨g8, 4, none⟩ (.slice (some ⟨gh, 0, none⟩) 1 1)) w1.heap.size gN f := hnh.grown (grown_setC wh g8 4 _) (fun b e => ⟨by injection e with e; have := HgL3.out; have := Hg8w.out; omega, fun j hj e2 => own_ne (hnh.own j hj) heh (by decide) (e2.trans e.symm)⟩)
              have hhi := hkh.far (p := ⟨g8, 4, none⟩) hg8h.symm (.slice (some ⟨gh, 0, none⟩) 1 1)
              have hli := hlh.far (p := ⟨g8, 4, none⟩) hg68 (.slice (some ⟨gh, 0, none⟩) 1 1)
              have hGi := grown_comp hGh (grown_setC wh g8 4 (.slice (some ⟨gh, 0, none⟩) 1 1)) (fun b e => .inl (by injection e with e; have := Hg8w.out; omega))
              rw [hwi] at hei hni hhi hli hGi
              have hwri : w1.heap.size ≤ wi.heap.size := Nat.le_trans Hw3.out hGi.size
              obtain ⟨⟨i0, i1, i2, i3, i4⟩, -⟩ := blk5 hei
              obtain ⟨m0, m1, m2⟩ : _ ∧ _ ∧ _ := ⟨hli.cell 0, hli.cell 1, hli.cell 2⟩
              simp only [List.getElem?_toArray, List.getElem?_cons_zero, List.getElem?_cons_succ] at m0 m1 m2
              have hoi : OwnH wi w1.heap.size (.slice (some ⟨gh, 0, none⟩) 1 1) [⟨(k0 : Int), 0⟩] := OwnR.lit (fun _ => rfl) (L := [(⟨(k0 : Int), 0⟩ : Hp)]) hhi hghb rfl (by decide) (by decide)
              have hAk := HAll.out k0 Hk4.out
              have HE := Lib.hid (end_any gN k0 cs 1 1 (some ⟨gh, 0, none⟩) [⟨(k0 : Int), 0⟩] wi w1.heap.size f (nodeEnds k0 (N.map NodeM.nk) ++ leafEnds self k0 (N.map NodeM.nk) (F.take k2)) Hk4.out Hcs1.out (by have := Hcs2.out; omega) hoi rfl (by simp) hwri HgB.out hni hAk.1 (HAll.out.low Hk4.out) hAk.2.1)
              have HGi := Lib.hid hGi
              clear hs hle hbh hkh heh hnh hlh hghb hg8h hg68 hGh hei hni hhi hli hGi hwri hoi hAk
              obtain ⟨hcsw2, hcsw⟩ := Hwrap.out
              go_wp2_with fail
              with_reducible refine Calls.mono HE.out ?_
              clear e0 e1 e2 e3 e4 ef0 ef1 ef2 ef3 ef4 l0 l1 l2 e0' e1' e2' e3' e4' ef0' ef1' ef2' ef3' ef4' i0 i1 i2 i3 i4 m0 m1 m2 hwi hwh hgh hw8 hg8 hcsi hcsw hcsw2
              rintro r w9 ⟨rfl, ⟨x', hN9, hOk9, hc9⟩, hg9⟩
              have HN9 := Lib.hid hN9
              have HG9 := Lib.hid (grown_trans HGi.out hg9)
              have HA9 := Lib.hid (HAll.out.put (X' := fun lan => nodeEnds lan (N.map NodeM.nk) ++ leafEnds self lan (N.map NodeM.nk) (F.take (k2 + 1))) (p := (cs, [⟨(k0 : Int), 0⟩])) hOk9 hc9 (by intro y hy; rw [List.mem_singleton] at hy; subst hy; have := Hk4.out; exact ⟨⟨by simp, by simp only; omega⟩, by simp, by simp⟩) (by rw [HtkF.out, leafEnds_snoc, Hfe.out, Hle.out k0 rfl, Int.toNat_natCast, Hcs.out, List.append_assoc]) (fun j hj hne => by
                rw [HtkF.out, leafEnds_snoc, Hfe.out, leafEnd_ne (fun h => hne (by have h2 : (k0 : Int) = (j : Int) := h; omega)), List.append_nil]))
              clear hN9 hOk9 hc9 hg9
              go_wp2
              go_roundw
              case measure => have := Hlt2.out; simp [intOf]; omega
              case rel => exact ⟨k2 + 1, updN f k0 x', by go_num, Hlt2.out, HG9.out, HN9.out, HA9.out⟩
            · have es : (fr == self) = false := by simp [hs]
              have hle := fun (lan : Int) (h : (k0 : Int) = lan) => leafEnd_at (self := self) (lan := lan) (f := ⟨fr, (k0 : Int), (cf : Int)⟩) (n := ⟨⟨q1, q2⟩, ⟨q3, q4⟩, qn⟩) h Hxv.out
              simp only [if_neg hs] at hle
              have Hle := Lib.hid hle
              have hAk := HAll.out k0 Hk4.out
              have HE := Lib.hid (end_any gN k0 cs nq c14 A14 qn w8 w1.heap.size f (nodeEnds k0 (N.map NodeM.nk) ++ leafEnds self k0 (N.map NodeM.nk) (F.take k2)) Hk4.out Hcs1.out (by have := Hcs2.out; omega) HO8.out Hnq.out (by have := Hlw.out; omega) Hwr8.out HgB.out HN8.out hAk.1 (HAll.out.low Hk4.out) hAk.2.1)
              clear hs hle hAk
              obtain ⟨hcsw2, hcsw⟩ := Hwrap.out
              go_wp2_with fail
              with_reducible refine Calls.mono HE.out ?_
              clear e0 e1 e2 e3 e4 ef0 ef1 ef2 ef3 ef4 l0 l1 l2 hw8 hg8 hcsi hcsw hcsw2
              rintro r w9 ⟨rfl, ⟨x', hN9, hOk9, hc9⟩, hg9⟩
              have HN9 := Lib.hid hN9
              have HG9 := Lib.hid (grown_trans HG8.out hg9)
              have HA9 := Lib.hid (HAll.out.put (X' := fun lan => nodeEnds lan (N.map NodeM.nk) ++ leafEnds self lan (N.map NodeM.nk) (F.take (k2 + 1))) (p := (cs, qn)) hOk9 hc9 Hhops.out (by rw [HtkF.out, leafEnds_snoc, Hfe.out, Hle.out k0 rfl, Int.toNat_natCast, Hcs.out, List.append_assoc]) (fun j hj hne => by
                rw [HtkF.out, leafEnds_snoc, Hfe.out, leafEnd_ne (fun h => hne (by have h2 : (k0 : Int) = (j : Int) := h; omega)), List.append_nil]))
              clear hN9 hOk9 hc9 hg9
              go_wp2
              go_roundw
              case measure => have := Hlt2.out; simp [intOf]; omega
              case rel => exact ⟨k2 + 1, updN f k0 x', by go_num, Hlt2.out, HG9.out, HN9.out, HA9.out⟩
        · have hke : k2 = nF := by omega
          have hkk : ¬ (k2 : Int) < (nF : Int) := by omega
          rw [hke, ← HnF.out, List.take_length] at hAll
          have HAe := Lib.hid (show AllOk f (fun lan => endsV self lan (N.map NodeM.nk) F) from hAll)
          have HRg := Lib.hid (show RtsAt wr w1.heap.size (.slice Ao n c) M from (fun h => ⟨OwnR.lower h.row Hs2.out, fun x hx => OwnR.lower (h.each x hx) Hs2.out⟩) (HR3.out.past hg (Nat.lt_of_lt_of_le HgB.out Hs2.out)))
          have hbg : Below w.heap.size w wr := Hbw3.out.grown hg Hbw3.out.size (fun m e => by injection e with e; rw [← e, ← HgN.out]; exact Nat.le_refl _)
          have Hbg := Lib.hid hbg
          have HwG := Lib.hid hwr
          have Hown := Lib.hid hNt.own
          have hM0 : M.length ≤ 79 := by
            have h1 := congrArg List.length HME.out
            have h2 := rtOf_len self (N.map NodeM.nk)
            rw [List.length_map] at h1 h2
            have := HNl.out
            omega
          have HM0 := Lib.hid hM0
          obtain ⟨⟨fk0, fi0, fa0, fA0, fc0, fl0⟩, hf0⟩ : ∃ y, f 0 = y := ⟨_, rfl⟩
          obtain ⟨fn0, hn0⟩ : ∃ n, fl0.length = n := ⟨_, rfl⟩
          obtain ⟨y0, y1, y2, y3, -⟩ := hNt.cells (k := 0) (by decide)
          rw [hf0] at y0 y1 y2 y3
          simp only [Nat.zero_mul, Nat.zero_add] at y0 y1 y2 y3
          rw [hn0] at y3
          have Hf0 := Lib.hid hf0
          have Hn0 := Lib.hid hn0
          obtain ⟨⟨fk1, fi1, fa1, fA1, fc1, fl1⟩, hf1⟩ : ∃ y, f 1 = y := ⟨_, rfl⟩
          obtain ⟨fn1, hn1⟩ : ∃ n, fl1.length = n := ⟨_, rfl⟩
          obtain ⟨y4, y5, y6, y7, -⟩ := hNt.cells (k := 1) (by decide)
          rw [hf1] at y4 y5 y6 y7
          simp only [Nat.reduceMul, Nat.reduceAdd] at y4 y5 y6 y7
          rw [hn1] at y7
          have Hf1 := Lib.hid hf1
          have Hn1 := Lib.hid hn1
          obtain ⟨⟨fk2, fi2, fa2, fA2, fc2, fl2⟩, hf2⟩ : ∃ y, f 2 = y := ⟨_, rfl⟩
          obtain ⟨fn2, hn2⟩ : ∃ n, fl2.length = n := ⟨_, rfl⟩
          obtain ⟨y8, y9, y10, y11, -⟩ := hNt.cells (k := 2) (by decide)
          rw [hf2] at y8 y9 y10 y11
          simp only [Nat.reduceMul, Nat.reduceAdd] at y8 y9 y10 y11
          rw [hn2] at y11
          have Hf2 := Lib.hid hf2
          have Hn2 := Lib.hid hn2
          obtain ⟨⟨fk3, fi3, fa3, fA3, fc3, fl3⟩, hf3⟩ : ∃ y, f 3 = y := ⟨_, rfl⟩
          obtain ⟨fn3, hn3⟩ : ∃ n, fl3.length = n := ⟨_, rfl⟩
          obtain ⟨y12, y13, y14, y15, -⟩ := hNt.cells (k := 3) (by decide)
          rw [hf3] at y12 y13 y14 y15
          simp only [Nat.reduceMul, Nat.reduceAdd] at y12 y13 y14 y15
          rw [hn3] at y15
          have Hf3 := Lib.hid hf3
          have Hn3 := Lib.hid hn3
          obtain ⟨wG, hwG⟩ : ∃ x : World, x = wr := ⟨_, rfl⟩
          rw [← hwG] at HRg HwG Hbg Hown y0 y1 y2 y3 y4 y5 y6 y7 y8 y9 y10 y11 y12 y13 y14 y15
          subst hwG
          clear hg hNt hAll hwr hlt hke hk HAll hbg hM0 hf0 hn0 hf1 hn1 hf2 hn2 hf3 hn3
          go_wp2_with fail
          clear y0 y1 y2 y3 y4 y5 y6 y7 y8 y9 y10 y11 y12 y13 y14 y15
          go_loopw [5, 95] (fun o i wr => ∃ (k n c : Nat) (Ao : Option Addr) (M' : List RtM), i = .int .i64 k ∧ k ≤ 4 ∧ o = .slice Ao n c ∧ M'.length = n ∧ RtsAt wr w1.heap.size (.slice Ao n c) M' ∧ M' = M ++ rtsN f k ∧ (∀ j, j < 4 → OwnH wr w1.heap.size (f j).nv (f j).next) ∧ w1.heap.size ≤ wr.heap.size ∧ Below w.heap.size w wr) (fun _ i _ => 4 - (intOf i).toNat)
          case atStart => exact ⟨0, n, c, Ao, M, rfl, by omega, rfl, HMn.out, HRg.out, by simp [rtsN], Hown.out, HwG.out, Hbg.out⟩
          case round =>
            obtain ⟨k, n', c', Ao', M', rfl, hk, rfl, hMn', hR', hM', hO', hw1, hb'⟩ := hrel
            have HMn' := Lib.hid hMn'
            have HM' := Lib.hid hM'
            have hMl' : M'.length ≤ 100 := by
              rw [hM', List.length_append]
              have := rtsN_len f k
              have := HM0.out
              omega
            have HMl' := Lib.hid hMl'
            by_cases hlt : k < 4
            · have h4 : k = 0 ∨ k = 1 ∨ k = 2 ∨ k = 3 := by omega
              rcases h4 with rfl | rfl | rfl | rfl
              · have hix := netsIx0 (.int .i64 fk0) (.int .i64 fi0) (.int .i64 fa0) (.slice fA0 fn0 fc0) (.int .i64 fk1) (.int .i64 fi1) (.int .i64 fa1) (.slice fA1 fn1 fc1) (.int .i64 fk2) (.int .i64 fi2) (.int .i64 fa2) (.slice fA2 fn2 fc2) (.int .i64 fk3) (.int .i64 fi3) (.int .i64 fa3) (.slice fA3 fn3 fc3)
                have hb6 := below_new wr (.cells #[.int .i64 fk0, .int .i64 fi0, .int .i64 fa0, .slice fA0 fn0 fc0] 44)
                have hk6 := Blk.new wr 44 #[.int .i64 fk0, .int .i64 fi0, .int .i64 fa0, .slice fA0 fn0 fc0]
                obtain ⟨w6, hw6⟩ : ∃ v, wr.alloc (.cells #[.int .i64 fk0, .int .i64 fi0, .int .i64 fa0, .slice fA0 fn0 fc0] 44) = v := ⟨_, rfl⟩
                obtain ⟨g6, hg6⟩ : ∃ v, wr.heap.size = v := ⟨_, rfl⟩
                rw [hw6, hg6] at hk6
                rw [hw6] at hb6
                have HR6 := Lib.hid (hR'.below hb6)
                have HO6 := Lib.hid (fun j hj => (hO' j hj).below hb6)
                have Hb6 := Lib.hid (below_trans hb' hb'.size hb6)
                have Hw6 := Lib.hid (Nat.le_trans hw1 hb6.size)
                obtain ⟨⟨z0, z1, z2, z3⟩, -⟩ := blk4q hk6
                clear hMn' hR' hM' hO' hb' hMl' hlt hk hb6 hk6 hw1
                by_cases hc : 0 < fa0
                · have hci : 0 < (fa0 : Int) := by omega
                  have Hrt := Lib.hid (rtN_yes (x := ⟨fk0, fi0, fa0, fA0, fc0, fl0⟩) hc)
                  clear hc
                  go_wp2_with (at_builtin; (refine app_row (e := 44) RtM.cells (fun _ => rfl) (by decide) (bytes := 48) (by decide) infoRt rfl Tryz.underlying33 onesRt (by rfl) _ _ (by rfl) w1.heap.size _ M' (by rfl) ((HR6.out.row).alloc _) w6.heap.size ⟨fk0, fi0, fa0, fA0, fc0, fl0⟩ (by rfl) (by unfold RtM.cells; simp only; rw [Hn0.out]; exact Blk.new _ _ _) (by have := HMl'.out; omega) (by have := Hw6.out; simp; omega) ?_))
                  intro v9 w9 hown9 hg9 hor9
                  obtain ⟨A9, c9, hv9⟩ := hown9.shape
                  subst hv9
                  have hbA := below_new w6 (.cells #[.int .i64 fk0, .int .i64 fi0, .int .i64 fa0, .slice fA0 fn0 fc0] 44)
                  have hR9 := (HR6.out.below hbA).app (x := ⟨fk0, fi0, fa0, fA0, fc0, fl0⟩) hg9 hown9 (by have h := (HO6.out 0 (by decide)).below hbA; rw [Hf0.out] at h; exact h)
                  have hO9 : ∀ j, j < 4 → OwnH w9 w1.heap.size (f j).nv (f j).next := fun j hj => ((HO6.out j hj).below hbA).kept hg9 (own_two ((HO6.out j hj).below hbA) (HR6.out.row.below hbA) (by decide))
                  have hb9 := (below_trans Hb6.out Hb6.out.size hbA).grown hg9 (below_trans Hb6.out Hb6.out.size hbA).size (fun m e => Nat.le_trans Hb1.out.size (HR6.out.row.block m e).1)
                  have Hw9 := Lib.hid (Nat.le_trans (Nat.le_trans Hw6.out hbA.size) hg9.size)
                  have HR9 := Lib.hid hR9
                  have HO9 := Lib.hid hO9
                  have Hb9 := Lib.hid hb9
                  clear hown9 hg9 hor9 hbA hR9 hO9 hb9 z0 z1 z2 z3 hw6 hg6 hix
                  go_wp2
                  go_roundw
                  case measure => simp [intOf]
                  case rel => exact ⟨1, _, c9, A9, M' ++ [⟨fk0, fi0, fa0, fA0, fc0, fl0⟩], by go_num, by omega, rfl, rfl, HR9.out, by rw [rtsN_succ, Hf0.out, Hrt.out, ← List.append_assoc, ← HM'.out], HO9.out, Hw9.out, Hb9.out⟩
                · have hci : ¬ 0 < (fa0 : Int) := by omega
                  have Hrt := Lib.hid (rtN_no (x := ⟨fk0, fi0, fa0, fA0, fc0, fl0⟩) hc)
                  clear hc
                  go_wp2
                  go_roundw
                  case measure => simp [intOf]
                  case rel => exact ⟨1, n', c', Ao', M', by go_num, by omega, rfl, HMn'.out, HR6.out, by rw [rtsN_succ, Hf0.out, Hrt.out, List.append_nil, ← HM'.out], HO6.out, Hw6.out, Hb6.out⟩
              · have hix := netsIx1 (.int .i64 fk0) (.int .i64 fi0) (.int .i64 fa0) (.slice fA0 fn0 fc0) (.int .i64 fk1) (.int .i64 fi1) (.int .i64 fa1) (.slice fA1 fn1 fc1) (.int .i64 fk2) (.int .i64 fi2) (.int .i64 fa2) (.slice fA2 fn2 fc2) (.int .i64 fk3) (.int .i64 fi3) (.int .i64 fa3) (.slice fA3 fn3 fc3)
                have hb6 := below_new wr (.cells #[.int .i64 fk1, .int .i64 fi1, .int .i64 fa1, .slice fA1 fn1 fc1] 44)
                have hk6 := Blk.new wr 44 #[.int .i64 fk1, .int .i64 fi1, .int .i64 fa1, .slice fA1 fn1 fc1]
                obtain ⟨w6, hw6⟩ : ∃ v, wr.alloc (.cells #[.int .i64 fk1, .int .i64 fi1, .int .i64 fa1, .slice fA1 fn1 fc1] 44) = v := ⟨_, rfl⟩
                obtain ⟨g6, hg6⟩ : ∃ v, wr.heap.size = v := ⟨_, rfl⟩
                rw [hw6, hg6] at hk6
                rw [hw6] at hb6
                have HR6 := Lib.hid (hR'.below hb6)
                have HO6 := Lib.hid (fun j hj => (hO' j hj).below hb6)
                have Hb6 := Lib.hid (below_trans hb' hb'.size hb6)
                have Hw6 := Lib.hid (Nat.le_trans hw1 hb6.size)
                obtain ⟨⟨z0, z1, z2, z3⟩, -⟩ := blk4q hk6
                clear hMn' hR' hM' hO' hb' hMl' hlt hk hb6 hk6 hw1
                by_cases hc : 0 < fa1
                · have hci : 0 < (fa1 : Int) := by omega
                  have Hrt := Lib.hid (rtN_yes (x := ⟨fk1, fi1, fa1, fA1, fc1, fl1⟩) hc)
                  clear hc
                  go_wp2_with (at_builtin; (refine app_row (e := 44) RtM.cells (fun _ => rfl) (by decide) (bytes := 48) (by decide) infoRt rfl Tryz.underlying33 onesRt (by rfl) _ _ (by rfl) w1.heap.size _ M' (by rfl) ((HR6.out.row).alloc _) w6.heap.size ⟨fk1, fi1, fa1, fA1, fc1, fl1⟩ (by rfl) (by unfold RtM.cells; simp only; rw [Hn1.out]; exact Blk.new _ _ _) (by have := HMl'.out; omega) (by have := Hw6.out; simp; omega) ?_))
                  intro v9 w9 hown9 hg9 hor9
                  obtain ⟨A9, c9, hv9⟩ := hown9.shape
                  subst hv9
                  have hbA := below_new w6 (.cells #[.int .i64 fk1, .int .i64 fi1, .int .i64 fa1, .slice fA1 fn1 fc1] 44)
                  have hR9 := (HR6.out.below hbA).app (x := ⟨fk1, fi1, fa1, fA1, fc1, fl1⟩) hg9 hown9 (by have h := (HO6.out 1 (by decide)).below hbA; rw [Hf1.out] at h; exact h)
                  have hO9 : ∀ j, j < 4 → OwnH w9 w1.heap.size (f j).nv (f j).next := fun j hj => ((HO6.out j hj).below hbA).kept hg9 (own_two ((HO6.out j hj).below hbA) (HR6.out.row.below hbA) (by decide))
                  have hb9 := (below_trans Hb6.out Hb6.out.size hbA).grown hg9 (below_trans Hb6.out Hb6.out.size hbA).size (fun m e => Nat.le_trans Hb1.out.size (HR6.out.row.block m e).1)
                  have Hw9 := Lib.hid (Nat.le_trans (Nat.le_trans Hw6.out hbA.size) hg9.size)
                  have HR9 := Lib.hid hR9
                  have HO9 := Lib.hid hO9
                  have Hb9 := Lib.hid hb9
                  clear hown9 hg9 hor9 hbA hR9 hO9 hb9 z0 z1 z2 z3 hw6 hg6 hix
                  go_wp2
                  go_roundw
                  case measure => simp [intOf]
                  case rel => exact ⟨2, _, c9, A9, M' ++ [⟨fk1, fi1, fa1, fA1, fc1, fl1⟩], by go_num, by omega, rfl, rfl, HR9.out, by rw [rtsN_succ, Hf1.out, Hrt.out, ← List.append_assoc, ← HM'.out], HO9.out, Hw9.out, Hb9.out⟩
                · have hci : ¬ 0 < (fa1 : Int) := by omega
                  have Hrt := Lib.hid (rtN_no (x := ⟨fk1, fi1, fa1, fA1, fc1, fl1⟩) hc)
                  clear hc
                  go_wp2
                  go_roundw
                  case measure => simp [intOf]
                  case rel => exact ⟨2, n', c', Ao', M', by go_num, by omega, rfl, HMn'.out, HR6.out, by rw [rtsN_succ, Hf1.out, Hrt.out, List.append_nil, ← HM'.out], HO6.out, Hw6.out, Hb6.out⟩
              · have hix := netsIx2 (.int .i64 fk0) (.int .i64 fi0) (.int .i64 fa0) (.slice fA0 fn0 fc0) (.int .i64 fk1) (.int .i64 fi1) (.int .i64 fa1) (.slice fA1 fn1 fc1) (.int .i64 fk2) (.int .i64 fi2) (.int .i64 fa2) (.slice fA2 fn2 fc2) (.int .i64 fk3) (.int .i64 fi3) (.int .i64 fa3) (.slice fA3 fn3 fc3)
                have hb6 := below_new wr (.cells #[.int .i64 fk2, .int .i64 fi2, .int .i64 fa2, .slice fA2 fn2 fc2] 44)
                have hk6 := Blk.new wr 44 #[.int .i64 fk2, .int .i64 fi2, .int .i64 fa2, .slice fA2 fn2 fc2]
                obtain ⟨w6, hw6⟩ : ∃ v, wr.alloc (.cells #[.int .i64 fk2, .int .i64 fi2, .int .i64 fa2, .slice fA2 fn2 fc2] 44) = v := ⟨_, rfl⟩
                obtain ⟨g6, hg6⟩ : ∃ v, wr.heap.size = v := ⟨_, rfl⟩
                rw [hw6, hg6] at hk6
                rw [hw6] at hb6
                have HR6 := Lib.hid (hR'.below hb6)
                have HO6 := Lib.hid (fun j hj => (hO' j hj).below hb6)
                have Hb6 := Lib.hid (below_trans hb' hb'.size hb6)
                have Hw6 := Lib.hid (Nat.le_trans hw1 hb6.size)
                obtain ⟨⟨z0, z1, z2, z3⟩, -⟩ := blk4q hk6
                clear hMn' hR' hM' hO' hb' hMl' hlt hk hb6 hk6 hw1
                by_cases hc : 0 < fa2
                · have hci : 0 < (fa2 : Int) := by omega
                  have Hrt := Lib.hid (rtN_yes (x := ⟨fk2, fi2, fa2, fA2, fc2, fl2⟩) hc)
                  clear hc
                  go_wp2_with (at_builtin; (refine app_row (e := 44) RtM.cells (fun _ => rfl) (by decide) (bytes := 48) (by decide) infoRt rfl Tryz.underlying33 onesRt (by rfl) _ _ (by rfl) w1.heap.size _ M' (by rfl) ((HR6.out.row).alloc _) w6.heap.size ⟨fk2, fi2, fa2, fA2, fc2, fl2⟩ (by rfl) (by unfold RtM.cells; simp only; rw [Hn2.out]; exact Blk.new _ _ _) (by have := HMl'.out; omega) (by have := Hw6.out; simp; omega) ?_))
                  intro v9 w9 hown9 hg9 hor9
                  obtain ⟨A9, c9, hv9⟩ := hown9.shape
                  subst hv9
                  have hbA := below_new w6 (.cells #[.int .i64 fk2, .int .i64 fi2, .int .i64 fa2, .slice fA2 fn2 fc2] 44)
                  have hR9 := (HR6.out.below hbA).app (x := ⟨fk2, fi2, fa2, fA2, fc2, fl2⟩) hg9 hown9 (by have h := (HO6.out 2 (by decide)).below hbA; rw [Hf2.out] at h; exact h)
                  have hO9 : ∀ j, j < 4 → OwnH w9 w1.heap.size (f j).nv (f j).next := fun j hj => ((HO6.out j hj).below hbA).kept hg9 (own_two ((HO6.out j hj).below hbA) (HR6.out.row.below hbA) (by decide))
                  have hb9 := (below_trans Hb6.out Hb6.out.size hbA).grown hg9 (below_trans Hb6.out Hb6.out.size hbA).size (fun m e => Nat.le_trans Hb1.out.size (HR6.out.row.block m e).1)
                  have Hw9 := Lib.hid (Nat.le_trans (Nat.le_trans Hw6.out hbA.size) hg9.size)
                  have HR9 := Lib.hid hR9
                  have HO9 := Lib.hid hO9
                  have Hb9 := Lib.hid hb9
                  clear hown9 hg9 hor9 hbA hR9 hO9 hb9 z0 z1 z2 z3 hw6 hg6 hix
                  go_wp2
                  go_roundw
                  case measure => simp [intOf]
                  case rel => exact ⟨3, _, c9, A9, M' ++ [⟨fk2, fi2, fa2, fA2, fc2, fl2⟩], by go_num, by omega, rfl, rfl, HR9.out, by rw [rtsN_succ, Hf2.out, Hrt.out, ← List.append_assoc, ← HM'.out], HO9.out, Hw9.out, Hb9.out⟩
                · have hci : ¬ 0 < (fa2 : Int) := by omega
                  have Hrt := Lib.hid (rtN_no (x := ⟨fk2, fi2, fa2, fA2, fc2, fl2⟩) hc)
                  clear hc
                  go_wp2
                  go_roundw
                  case measure => simp [intOf]
                  case rel => exact ⟨3, n', c', Ao', M', by go_num, by omega, rfl, HMn'.out, HR6.out, by rw [rtsN_succ, Hf2.out, Hrt.out, List.append_nil, ← HM'.out], HO6.out, Hw6.out, Hb6.out⟩
              · have hix := netsIx3 (.int .i64 fk0) (.int .i64 fi0) (.int .i64 fa0) (.slice fA0 fn0 fc0) (.int .i64 fk1) (.int .i64 fi1) (.int .i64 fa1) (.slice fA1 fn1 fc1) (.int .i64 fk2) (.int .i64 fi2) (.int .i64 fa2) (.slice fA2 fn2 fc2) (.int .i64 fk3) (.int .i64 fi3) (.int .i64 fa3) (.slice fA3 fn3 fc3)
                have hb6 := below_new wr (.cells #[.int .i64 fk3, .int .i64 fi3, .int .i64 fa3, .slice fA3 fn3 fc3] 44)
                have hk6 := Blk.new wr 44 #[.int .i64 fk3, .int .i64 fi3, .int .i64 fa3, .slice fA3 fn3 fc3]
                obtain ⟨w6, hw6⟩ : ∃ v, wr.alloc (.cells #[.int .i64 fk3, .int .i64 fi3, .int .i64 fa3, .slice fA3 fn3 fc3] 44) = v := ⟨_, rfl⟩
                obtain ⟨g6, hg6⟩ : ∃ v, wr.heap.size = v := ⟨_, rfl⟩
                rw [hw6, hg6] at hk6
                rw [hw6] at hb6
                have HR6 := Lib.hid (hR'.below hb6)
                have HO6 := Lib.hid (fun j hj => (hO' j hj).below hb6)
                have Hb6 := Lib.hid (below_trans hb' hb'.size hb6)
                have Hw6 := Lib.hid (Nat.le_trans hw1 hb6.size)
                obtain ⟨⟨z0, z1, z2, z3⟩, -⟩ := blk4q hk6
                clear hMn' hR' hM' hO' hb' hMl' hlt hk hb6 hk6 hw1
                by_cases hc : 0 < fa3
                · have hci : 0 < (fa3 : Int) := by omega
                  have Hrt := Lib.hid (rtN_yes (x := ⟨fk3, fi3, fa3, fA3, fc3, fl3⟩) hc)
                  clear hc
                  go_wp2_with (at_builtin; (refine app_row (e := 44) RtM.cells (fun _ => rfl) (by decide) (bytes := 48) (by decide) infoRt rfl Tryz.underlying33 onesRt (by rfl) _ _ (by rfl) w1.heap.size _ M' (by rfl) ((HR6.out.row).alloc _) w6.heap.size ⟨fk3, fi3, fa3, fA3, fc3, fl3⟩ (by rfl) (by unfold RtM.cells; simp only; rw [Hn3.out]; exact Blk.new _ _ _) (by have := HMl'.out; omega) (by have := Hw6.out; simp; omega) ?_))
                  intro v9 w9 hown9 hg9 hor9
                  obtain ⟨A9, c9, hv9⟩ := hown9.shape
                  subst hv9
                  have hbA := below_new w6 (.cells #[.int .i64 fk3, .int .i64 fi3, .int .i64 fa3, .slice fA3 fn3 fc3] 44)
                  have hR9 := (HR6.out.below hbA).app (x := ⟨fk3, fi3, fa3, fA3, fc3, fl3⟩) hg9 hown9 (by have h := (HO6.out 3 (by decide)).below hbA; rw [Hf3.out] at h; exact h)
                  have hO9 : ∀ j, j < 4 → OwnH w9 w1.heap.size (f j).nv (f j).next := fun j hj => ((HO6.out j hj).below hbA).kept hg9 (own_two ((HO6.out j hj).below hbA) (HR6.out.row.below hbA) (by decide))
                  have hb9 := (below_trans Hb6.out Hb6.out.size hbA).grown hg9 (below_trans Hb6.out Hb6.out.size hbA).size (fun m e => Nat.le_trans Hb1.out.size (HR6.out.row.block m e).1)
                  have Hw9 := Lib.hid (Nat.le_trans (Nat.le_trans Hw6.out hbA.size) hg9.size)
                  have HR9 := Lib.hid hR9
                  have HO9 := Lib.hid hO9
                  have Hb9 := Lib.hid hb9
                  clear hown9 hg9 hor9 hbA hR9 hO9 hb9 z0 z1 z2 z3 hw6 hg6 hix
                  go_wp2
                  go_roundw
                  case measure => simp [intOf]
                  case rel => exact ⟨4, _, c9, A9, M' ++ [⟨fk3, fi3, fa3, fA3, fc3, fl3⟩], by go_num, by omega, rfl, rfl, HR9.out, by rw [rtsN_succ, Hf3.out, Hrt.out, ← List.append_assoc, ← HM'.out], HO9.out, Hw9.out, Hb9.out⟩
                · have hci : ¬ 0 < (fa3 : Int) := by omega
                  have Hrt := Lib.hid (rtN_no (x := ⟨fk3, fi3, fa3, fA3, fc3, fl3⟩) hc)
                  clear hc
                  go_wp2
                  go_roundw
                  case measure => simp [intOf]
                  case rel => exact ⟨4, n', c', Ao', M', by go_num, by omega, rfl, HMn'.out, HR6.out, by rw [rtsN_succ, Hf3.out, Hrt.out, List.append_nil, ← HM'.out], HO6.out, Hw6.out, Hb6.out⟩
            · have hke : k = 4 := by omega
              subst hke
              have HRe := Lib.hid hR'
              have Hbe := Lib.hid hb'
              clear hMn' hR' hM' hO' hb' hMl' hlt hk hw1
              go_wp2
              go_ret
              refine ⟨⟨_, M', _, rfl, ⟨OwnR.lower HRe.out.row Hb1.out.size, fun x hx => OwnR.lower (HRe.out.each x hx) Hb1.out.size⟩, HTr.out, ?_⟩, Hbe.out⟩
              rw [HM'.out, show rtsN f 4 = rtN (f 0) ++ rtN (f 1) ++ rtN (f 2) ++ rtN (f 3) by simp [rtsN, List.range_succ]]
              have h := routes_are HME.out HAe.out
              simpa only [List.append_assoc] using h

end Go.Proofs.YtpnbibokddhheaaGreat

/-
  Layer 22: whether some ends, of a cost, have a hop (plain).
-/
namespace Go.Proofs.YtpnbibokddhheaaGreat
open Go.RowKit

def hasB (X : List EndV) (c : Nat) (h : Hp) : Bool := X.any fun x => decide (x.1 = c) && decide (h ∈ x.2)
theorem hasB_iff {X : List EndV} {c : Nat} {h : Hp} : hasB X c h = true ↔ ∃ x ∈ X, x.1 = c ∧ h ∈ x.2 := by
  unfold hasB
  simp [List.any_eq_true]

end Go.Proofs.YtpnbibokddhheaaGreat

/-
  Layer 22 in plain words: the document's way: the least cost, then hop by hop.
-/
namespace Go.Proofs.YtpnbibokddhheaaGreat

theorem allHp_sorted : allHp.Pairwise ltH := by
  have h : allHp.Pairwise fun a b => decide (a.lan < b.lan ∨ (a.lan = b.lan ∧ a.id < b.id)) = true := by decide
  exact h.imp fun {a b} g => of_decide_eq_true g
theorem allHp_get : ∀ m < 64, allHp[m]? = some ⟨((m / 16 : Nat) : Int), ((m % 16 : Nat) : Int)⟩ := by decide
def hopsTo (X : List EndV) (c m : Nat) : List Hp := (allHp.take m).filter fun h => hasB X c h
theorem hopsTo_next (X : List EndV) (c : Nat) {a b : Nat} (ha : a < 4) (hb : b < 16) : hopsTo X c (16 * a + b + 1) = hopsTo X c (16 * a + b) ++ if hasB X c ⟨(a : Int), (b : Int)⟩ = true then [⟨(a : Int), (b : Int)⟩] else [] := by
  have h := allHp_get (16 * a + b) (by omega)
  rw [show (16 * a + b) / 16 = a by omega, show (16 * a + b) % 16 = b by omega] at h
  obtain ⟨hl, e⟩ := List.getElem?_eq_some_iff.1 h
  unfold hopsTo
  rw [List.take_succ_eq_append_getElem hl, List.filter_append, e]
  congr 1
  rw [List.filter_cons]
  rfl
theorem hopsTo_len (X : List EndV) (c m : Nat) : (hopsTo X c m).length ≤ 64 := by
  unfold hopsTo
  refine Nat.le_trans (List.length_filter_le _ _) ?_
  rw [List.length_take]
  have : allHp.length = 64 := by decide
  omega
/-- the least of the costs so far -/
structure LeastC (X : List EndV) (k c : Nat) : Prop where
  had : ∃ x ∈ X, x.1 = c
  min : ∀ x ∈ X.take k, c ≤ x.1
theorem LeastC.start {X : List EndV} {x : EndV} (h : X[0]? = some x) : LeastC X 0 x.1 := ⟨⟨x, List.mem_of_getElem? h, rfl⟩, by simp⟩
theorem LeastC.less {X : List EndV} {k c : Nat} (h : LeastC X k c) (hk : k < X.length) (hl : X[k].1 < c) : LeastC X (k + 1) X[k].1 where
  had := ⟨X[k], List.getElem_mem hk, rfl⟩
  min := fun x hx => by
    rw [List.take_succ_eq_append_getElem hk, List.mem_append, List.mem_singleton] at hx
    rcases hx with hx | rfl
    · have := h.min x hx; omega
    · exact Nat.le_refl _
theorem LeastC.not {X : List EndV} {k c : Nat} (h : LeastC X k c) (hk : k < X.length) (hl : ¬ X[k].1 < c) : LeastC X (k + 1) c where
  had := h.had
  min := fun x hx => by
    rw [List.take_succ_eq_append_getElem hk, List.mem_append, List.mem_singleton] at hx
    rcases hx with hx | rfl
    · exact h.min x hx
    · omega
theorem ends_of {X : List EndV} {c : Nat} (h : LeastC X X.length c) (hok : ∀ x ∈ X, ∀ y ∈ x.2, okHp y) : EndsAt X c (hopsTo X c 64) where
  had := h.had
  min := fun x hx => h.min x (by rw [List.take_length]; exact hx)
  sorted := by
    have : allHp.length = 64 := by decide
    unfold hopsTo
    rw [← this, List.take_length]
    exact allHp_sorted.filter _
  mem := fun y => by
    have : allHp.length = 64 := by decide
    unfold hopsTo
    rw [← this, List.take_length, List.mem_filter, hasB_iff]
    constructor
    · exact fun g => g.2
    · rintro ⟨x, hx, e, hy⟩
      exact ⟨mem_allHp (hok x hx y hy), x, hx, e, hy⟩
/-- the hops of all ends are such -/
theorem ends_ok {self lan : Int} {L : List Nk} {F : List Lf} (h0 : 0 ≤ lan) (h3 : lan ≤ 3) (hL : ∀ n ∈ L, ∀ y ∈ n.next, okHp y) : ∀ x ∈ endsV self lan L F, ∀ y ∈ x.2, okHp y := by
  intro x hx y hy
  rcases mem_endsV.1 hx with ⟨n, hn, -, -, rfl⟩ | ⟨f, -, n, hn, -, -, rfl⟩
  · exact hL n hn y hy
  · simp only at hy
    split at hy
    · rw [List.mem_singleton] at hy
      subst hy
      exact ⟨⟨h0, h3⟩, by simp, by simp⟩
    · exact hL n hn y hy
def lansTo (k : Nat) : List Int := (List.range k).map fun i : Nat => (i : Int)
theorem lansTo_succ (k : Nat) : lansTo (k + 1) = lansTo k ++ [(k : Int)] := by simp [lansTo, List.range_succ]
theorem nets_congr {o o' : Int → Option EndV} {X : List Int} (h : ∀ x ∈ X, o x = o' x) : netsOf o X = netsOf o' X := by
  unfold netsOf
  induction X with
  | nil => rfl
  | cons x X ih =>
    rw [List.flatMap_cons, List.flatMap_cons, ih fun y hy => h y (List.mem_cons_of_mem _ hy)]
    unfold netOf
    rw [h x List.mem_cons_self]
/-- the routes so far -/
def RtsTo (self : Int) (L : List Nk) (F : List Lf) (k : Nat) (R : List Rt) : Prop := ∃ o : Int → Option EndV, (∀ j : Nat, j < k → EndsO (endsV self j L F) (o j)) ∧ R = rtsOf self L ++ netsOf o (lansTo k)
theorem RtsTo.start {self : Int} {L : List Nk} {F : List Lf} {R : List Rt} (h : R = rtsOf self L) : RtsTo self L F 0 R := ⟨fun _ => none, fun j hj => by omega, by rw [h]; simp [lansTo, netsOf]⟩
def rtNew (k : Nat) : Option EndV → List Rt
  | some q => [⟨2, k, q.1, q.2⟩]
  | none => []
theorem RtsTo.next {self : Int} {L : List Nk} {F : List Lf} {k : Nat} {R : List Rt} (h : RtsTo self L F k R) (p : Option EndV) (hp : EndsO (endsV self k L F) p) : RtsTo self L F (k + 1) (R ++ rtNew k p) := by
  obtain ⟨o, h1, rfl⟩ := h
  refine ⟨fun x => if x = (k : Int) then p else o x, fun j hj => ?_, ?_⟩
  · by_cases e : j = k
    · subst e
      simp only [if_true]
      exact hp
    · simp only
      rw [if_neg (by omega)]
      exact h1 j (by omega)
  · rw [lansTo_succ, List.append_assoc]
    congr 1
    unfold netsOf
    rw [List.flatMap_append]
    congr 1
    · refine nets_congr (o := o) fun x hx => ?_
      obtain ⟨i, hi, rfl⟩ := List.mem_map.1 hx
      rw [List.mem_range] at hi
      rw [if_neg (by omega)]
    · rw [List.flatMap_cons, List.flatMap_nil, List.append_nil]
      unfold netOf rtNew
      simp only [if_true]
      cases p <;> rfl
theorem RtsTo.ends {self : Int} {L : List Nk} {F : List Lf} {R : List Rt} (h : RtsTo self L F 4 R) : RoutesAre self L F R := by
  obtain ⟨o, h1, h2⟩ := h
  refine ⟨o, fun lan h0 h3 => ?_, h2⟩
  obtain ⟨k, rfl⟩ := Int.eq_ofNat_of_zero_le h0
  exact h1 k (by omega)
theorem RtsTo.len {self : Int} {L : List Nk} {F : List Lf} {k : Nat} {R : List Rt} (h : RtsTo self L F k R) : R.length ≤ L.length + k := by
  obtain ⟨o, -, rfl⟩ := h
  have h1 : ∀ X : List Int, (netsOf o X).length ≤ X.length := by
    intro X
    unfold netsOf
    induction X with
    | nil => simp
    | cons x X ih =>
      rw [List.flatMap_cons, List.length_append, List.length_cons]
      have : (netOf o x).length ≤ 1 := by unfold netOf; split <;> simp
      omega
  have h2 : (rtsOf self L).length ≤ L.length := by
    unfold rtsOf
    induction L with
    | nil => simp
    | cons n L ih =>
      rw [List.flatMap_cons, List.length_append, List.length_cons]
      have : (rtOf self n).length ≤ 1 := by unfold rtOf; split <;> simp
      omega
  have h3 := h1 (lansTo k)
  have h4 : (lansTo k).length = k := by simp [lansTo]
  rw [List.length_append]
  omega

end Go.Proofs.YtpnbibokddhheaaGreat

/-
  Layer 22: table.Find, over any routes that can be read.
-/
namespace Go.Proofs.YtpnbibokddhheaaGreat
open Go.RowKit Go.Sort

def findR (M : List RtM) (kd id : Int) : Option Rt := (M.map RtM.rt).find? fun x => decide (x.kind = kd ∧ x.id = id)
theorem findR_at {M : List RtM} {kd id : Int} {k : Nat} (hk : k < M.length) (h : ∀ p ∈ M.take k, ¬ (p.kind = kd ∧ p.id = id)) (he : M[k].kind = kd ∧ M[k].id = id) : findR M kd id = some M[k].rt := by
  unfold findR
  have h1 : M = M.take k ++ M[k] :: M.drop (k + 1) := by rw [← List.drop_eq_getElem_cons hk, List.take_append_drop]
  have h2 : M.map RtM.rt = (M.take k).map RtM.rt ++ M[k].rt :: (M.drop (k + 1)).map RtM.rt := by
    conv => lhs; rw [h1]
    rw [List.map_append, List.map_cons]
  rw [h2, List.find?_append]
  have h3 : ((M.take k).map RtM.rt).find? (fun x => decide (x.kind = kd ∧ x.id = id)) = none := by
    rw [List.find?_eq_none]
    intro n hn
    obtain ⟨x, hx, rfl⟩ := List.mem_map.1 hn
    exact fun e => h x hx (of_decide_eq_true e)
  rw [h3, Option.none_or, List.find?_cons, show decide (M[k].rt.kind = kd ∧ M[k].rt.id = id) = true from decide_eq_true he]
theorem findR_not {M : List RtM} {kd id : Int} (h : ∀ p ∈ M, ¬ (p.kind = kd ∧ p.id = id)) : findR M kd id = none := by
  unfold findR
  rw [List.find?_eq_none]
  intro n hn
  obtain ⟨x, hx, rfl⟩ := List.mem_map.1 hn
  exact fun e => h x hx (of_decide_eq_true e)
/-- what is said of a route that was looked for -/
def FoundR (M : List RtM) (kd id : Int) (w' : World) (B : Nat) (r : Ending) : Prop :=
  (∃ (x : Rt) (A' : Option Addr) (c' : Nat), findR M kd id = some x ∧ r = .returned (.tuple #[.agg #[.int .i64 x.kind, .int .i64 x.id, .int .i64 x.cost, .slice A' x.next.length c'], .bool true]) ∧ OwnH w' B (.slice A' x.next.length c') x.next) ∨
  (findR M kd id = none ∧ r = .returned (.tuple #[.agg #[.int .i64 0, .int .i64 0, .int .i64 0, .slice none 0 0], .bool false]))
theorem blk4r {w : World} {g : Nat} {t : TypeId} {a b c d : Value} (h : Blk w g t #[a, b, c, d]) : (w.cell? ⟨g, 0, none⟩ = some a ∧ w.cell? ⟨g, 1, none⟩ = some b ∧ w.cell? ⟨g, 2, none⟩ = some c ∧ w.cell? ⟨g, 3, none⟩ = some d) ∧ (w.frozen? ⟨g, 0, none⟩ = false ∧ w.frozen? ⟨g, 1, none⟩ = false ∧ w.frozen? ⟨g, 2, none⟩ = false ∧ w.frozen? ⟨g, 3, none⟩ = false) :=
  ⟨⟨h.cell 0, h.cell 1, h.cell 2, h.cell 3⟩, h.frozen 0, h.frozen 1, h.frozen 2, h.frozen 3⟩
theorem Blk.put4 {w : World} {g : Nat} {t : TypeId} {a b c d : Value} (h : Blk w g t #[a, b, c, d]) (a' b' c' d' : Value) : Blk ((((w.setCell ⟨g, 0, none⟩ a').setCell ⟨g, 1, none⟩ b').setCell ⟨g, 2, none⟩ c').setCell ⟨g, 3, none⟩ d') g t #[a', b', c', d'] := h.set4
theorem below_put4 {B : Nat} {w w' : World} {g : Nat} (h : Below B w w') (hg : B ≤ g) (a b c d : Value) : Below B w ((((w'.setCell ⟨g, 0, none⟩ a).setCell ⟨g, 1, none⟩ b).setCell ⟨g, 2, none⟩ c).setCell ⟨g, 3, none⟩ d) :=
  (((h.setCell (p := ⟨g, 0, none⟩) hg _).setCell (p := ⟨g, 1, none⟩) hg _).setCell (p := ⟨g, 2, none⟩) hg _).setCell (p := ⟨g, 3, none⟩) hg _
set_option maxHeartbeats 8000000 in
set_option maxRecDepth 100000 in
theorem FindR_any (kd id : Int) (A : Option Addr) (cap n : Nat) (M : List RtM) (w : World) (hM : RtsIn w w.heap.size A M) (hlen : M.length ≤ 2 ^ 20) (hn : n = M.length) :
    Calls Tryz.prog 9 #[.int .i64 kd, .int .i64 id, .slice A n cap] w fun r w' => FoundR M kd id w' w.heap.size r ∧ Below w.heap.size w w' := by
  subst hn
  have hb0 := below_new w (.cells #[.int .i64 0, .int .i64 0, .int .i64 0, .slice none 0 0] 44)
  have hk4 := Blk.new w 44 #[.int .i64 0, .int .i64 0, .int .i64 0, .slice none 0 0]
  have HM := Lib.hid hM
  have hli : (M.length : Int) ≤ 1048576 := by omega
  obtain ⟨w0, hw0⟩ : ∃ w0, w.alloc (.cells #[.int .i64 0, .int .i64 0, .int .i64 0, .slice none 0 0] 44) = w0 := ⟨_, rfl⟩
  obtain ⟨g6, hg6⟩ : ∃ g, w.heap.size = g := ⟨_, rfl⟩
  rw [hw0] at hb0 hk4
  rw [hg6] at hk4
  have Hb0 := Lib.hid hb0
  have Hk4 := Lib.hid hk4
  have Hg6 := Lib.hid hg6
  clear hM hlen hb0 hk4
  go_enter Tryz.func9, Tryz.ntmps9
  go_wp2
  clear hw0 hg6
  go_loopw [12] (fun i wr => ∃ k : Nat, i = .int .i64 k ∧ k ≤ M.length ∧ (∀ p ∈ M.take k, ¬ (p.kind = kd ∧ p.id = id)) ∧ Below w0.heap.size w0 wr) (fun i _ => M.length - (intOf i).toNat)
  case atStart => exact ⟨0, rfl, Nat.zero_le _, by simp, Below.refl _ _⟩
  case round =>
    obtain ⟨k, rfl, hk, h0, hb⟩ := hrel
    have hNr := (HM.out.below (below_trans Hb0.out Hb0.out.size hb)).more (below_trans Hb0.out Hb0.out.size hb).size
    have hk4r := Hk4.out.below hb Hk4.out.lt
    by_cases hlt : k < M.length
    · have hki : (k : Int) < (M.length : Int) := by omega
      obtain ⟨g, o, hA, -, x0, x1, x2, x3⟩ := row_rt hNr.rows k hlt
      subst hA
      have hat := fun he => findR_at hlt h0 he
      have hrw := hNr.each _ (List.getElem_mem hlt)
      have hlw := hNr.low _ (List.getElem_mem hlt)
      have hmore : ¬ (M[k].kind = kd ∧ M[k].id = id) → ∀ p ∈ M.take (k + 1), ¬ (p.kind = kd ∧ p.id = id) := by
        intro he p hp
        rw [List.take_succ_eq_append_getElem hlt, List.mem_append, List.mem_singleton] at hp
        rcases hp with hp | rfl
        · exact h0 p hp
        · exact he
      generalize M[k] = x at *
      obtain ⟨xk, xi, xa, xA, xc, xn⟩ := x
      simp only at x0 x1 x2 x3 hrw hlw hat hmore
      obtain ⟨nl, hnl⟩ : ∃ n, xn.length = n := ⟨_, rfl⟩
      rw [hnl] at x3 hlw
      obtain ⟨ca, hca⟩ : ∃ c : Int, (xa : Int) = c := ⟨_, rfl⟩
      rw [hca] at x2
      have Hca := Lib.hid hca
      have hb6 := below_new wr (.cells #[.int .i64 xk, .int .i64 xi, .int .i64 ca, .slice xA nl xc] 44)
      have hk6 := Blk.new wr 44 #[.int .i64 xk, .int .i64 xi, .int .i64 ca, .slice xA nl xc]
      obtain ⟨w6, hw6⟩ : ∃ w6, wr.alloc (.cells #[.int .i64 xk, .int .i64 xi, .int .i64 ca, .slice xA nl xc] 44) = w6 := ⟨_, rfl⟩
      obtain ⟨g9, hg9⟩ : ∃ g, wr.heap.size = g := ⟨_, rfl⟩
      rw [hw6] at hb6 hk6
      rw [hg9] at hk6
      have Hb6 := Lib.hid (below_trans hb hb.size hb6)
      have Hk6 := Lib.hid hk6
      have Hk46 := Lib.hid (hk4r.below hb6 hk4r.lt)
      have HCl := Lib.hid (cloneHp xA xc xn w6 w6.heap.size ((hrw.below hb6).more hb6.size) (Nat.le_refl _) (by omega) nl hnl.symm)
      have Hlt := Lib.hid hlt
      have Hat := Lib.hid hat
      have Hmore := Lib.hid hmore
      have Hnl := Lib.hid hnl
      have Hs6 := Lib.hid (show w0.heap.size ≤ g9 by rw [← hg9]; exact hb.size)
      have Hne := Lib.hid (show g6 ≠ g9 by have := hk4r.lt; omega)
      obtain ⟨⟨z0, z1, z2, z3⟩, zf0, zf1, zf2, zf3⟩ := blk4r hk6
      clear hNr hk4r h0 hb hrw hlw hat hmore hb6 hk6 hlt hk hnl hca
      by_cases he1 : xk = kd
      · have hq1 : (xk == kd) = true := by simp [he1]
        by_cases he2 : xi = id
        · have hq2 : (xi == id) = true := by simp [he2]
          have He := Lib.hid (Hat.out ⟨he1, he2⟩)
          clear he1 he2
          go_wp2_with fail
          clear x0 x1 x2 x3 hq1 hq2
          with_reducible refine Calls.mono HCl.out ?_
          rintro r w7 ⟨v, rfl, ho, hb7⟩
          obtain ⟨A9, c9, hv⟩ := ho.shape
          subst hv
          rw [Hnl.out] at ho ⊢
          have Ho := Lib.hid ho
          have Hb7 := Lib.hid (below_trans Hb6.out Hb6.out.size hb7)
          have Hk7 := Lib.hid (Hk6.out.below hb7 Hk6.out.lt)
          have Hk47 := Lib.hid (Hk46.out.below hb7 Hk46.out.lt)
          have Hs7 := Lib.hid (show w6.heap.size ≤ w7.heap.size from hb7.size)
          clear z0 z1 z2 z3 zf0 zf1 zf2 zf3 ho hb7 hw6 hg9
          obtain ⟨⟨z0, z1, z2, z3⟩, zf0, zf1, zf2, zf3⟩ := blk4r Hk7.out
          obtain ⟨w8, hw8⟩ : ∃ w8, w7.setCell ⟨g9, 3, none⟩ (.slice A9 nl c9) = w8 := ⟨_, rfl⟩
          have hk8 := (Hk7.out.set_ 3 (.slice A9 nl c9)).to (cs' := #[.int .i64 xk, .int .i64 xi, .int .i64 ca, .slice A9 nl c9]) (by simp)
          have hk48 := Hk47.out.far (p := ⟨g9, 3, none⟩) Hne.out (.slice A9 nl c9)
          have ho8 := OwnR.far Ho.out (p := ⟨g9, 3, none⟩) (fun e => by have := (Ho.out.block _ e).1; have := Hk6.out.lt; simp only at *; omega) (.slice A9 nl c9)
          have hb8 := Hb7.out.setCell (p := ⟨g9, 3, none⟩) Hs6.out (.slice A9 nl c9)
          rw [hw8] at hk8 hk48 ho8 hb8
          obtain ⟨⟨q0, q1, q2, q3⟩, -⟩ := blk4r hk8
          obtain ⟨⟨y0, y1, y2, y3⟩, yf0, yf1, yf2, yf3⟩ := blk4r hk48
          have Hk48 := Lib.hid hk48
          have Ho8 := Lib.hid ho8
          have Hb8 := Lib.hid hb8
          clear hk8 hk48 ho8 hb8
          go_wp2
          refine bodyPost_named (v := .tuple #[.agg #[.int .i64 xk, .int .i64 xi, .int .i64 ca, .slice A9 nl c9], .bool true]) (fun W => Blk W g6 44 #[.int .i64 xk, .int .i64 xi, .int .i64 ca, .slice A9 nl c9]) (Blk.put4 Hk48.out _ _ _ _) (fun W hB => by
            obtain ⟨⟨e0, e1, e2, e3⟩, -⟩ := blk4r hB
            simp [results, Tryz.results9, go_sem, e0, e1, e2, e3]) rfl ?_
          have hlt4 : g6 < w6.heap.size := Hk46.out.lt
          have hg := Hg6.out
          refine ⟨.inl ⟨⟨xk, xi, xa, xn⟩, A9, c9, He.out, by simp only; rw [Hnl.out, Hca.out], ?_⟩, below_put4 (below_trans Hb0.out Hb0.out.size Hb8.out) (by omega) _ _ _ _⟩
          simp only
          rw [Hnl.out]
          exact ((((Ho8.out.set_ (p := ⟨g6, 0, none⟩) hlt4 _).set_ (p := ⟨g6, 1, none⟩) hlt4 _).set_ (p := ⟨g6, 2, none⟩) hlt4 _).set_ (p := ⟨g6, 3, none⟩) hlt4 _).lower (by omega)
        · have hq2 : (xi == id) = false := by simp [he2]
          have Hm := Lib.hid (Hmore.out (fun h => he2 h.2))
          clear he1 he2
          go_wp2
          go_roundw
          case measure => have := Hlt.out; simp [intOf]; omega
          case rel => exact ⟨k + 1, by go_num, Hlt.out, Hm.out, Hb6.out⟩
      · have hq1 : (xk == kd) = false := by simp [he1]
        have Hm := Lib.hid (Hmore.out (fun h => he1 h.1))
        clear he1
        go_wp2
        go_roundw
        case measure => have := Hlt.out; simp [intOf]; omega
        case rel => exact ⟨k + 1, by go_num, Hlt.out, Hm.out, Hb6.out⟩
    · have hke : k = M.length := by omega
      subst hke
      have hkk : ¬ (M.length : Int) < (M.length : Int) := by omega
      rw [List.take_length] at h0
      have Hno := Lib.hid (findR_not h0)
      have Hk4r := Lib.hid hk4r
      have Hb := Lib.hid hb
      obtain ⟨⟨y0, y1, y2, y3⟩, yf0, yf1, yf2, yf3⟩ := blk4r hk4r
      clear hNr hk4r h0 hb hlt hk
      go_wp2
      refine bodyPost_named (v := .tuple #[.agg #[.int .i64 0, .int .i64 0, .int .i64 0, .slice none 0 0], .bool false]) (fun W => Blk W g6 44 #[.int .i64 0, .int .i64 0, .int .i64 0, .slice none 0 0]) (Blk.put4 Hk4r.out _ _ _ _) (fun W hB => by
        obtain ⟨⟨e0, e1, e2, e3⟩, -⟩ := blk4r hB
        simp [results, Tryz.results9, go_sem, e0, e1, e2, e3]) rfl ?_
      have hg := Hg6.out
      exact ⟨.inr ⟨Hno.out, rfl⟩, below_put4 (below_trans Hb0.out Hb0.out.size Hb.out) (by omega) _ _ _ _⟩

end Go.Proofs.YtpnbibokddhheaaGreat

/-
  Layer 22: what routes say: few, short, found by kind and number.
-/
namespace Go.Proofs.YtpnbibokddhheaaGreat
open Go.RowKit

structure RtsOk (M : List RtM) : Prop where
  low : ∀ x ∈ M, x.next.length ≤ 2 ^ 16
  len : M.length ≤ 83
  sorted : (M.map RtM.rt).Pairwise ltR
  kinds : ∀ x ∈ M, x.kind = 1 ∨ x.kind = 2
theorem nets_len (o : Int → Option EndV) : ∀ X : List Int, (netsOf o X).length ≤ X.length := by
  intro X
  unfold netsOf
  induction X with
  | nil => simp
  | cons x X ih =>
    rw [List.flatMap_cons, List.length_append, List.length_cons]
    have : (netOf o x).length ≤ 1 := by unfold netOf; split <;> simp
    omega
theorem rts_len (self : Int) (L : List Nk) : (rtsOf self L).length ≤ L.length := by
  unfold rtsOf
  induction L with
  | nil => simp
  | cons n L ih =>
    rw [List.flatMap_cons, List.length_append, List.length_cons]
    have : (rtOf self n).length ≤ 1 := by unfold rtOf; split <;> simp
    omega
theorem rts_ok {self : Int} {L : List Nk} {F : List Lf} {M : List RtM} (h : RoutesAre self L F (M.map RtM.rt)) (hO : NodesOk L) (hl : ∀ n ∈ L, n.next.length ≤ 64) (hL : L.length ≤ 79) : RtsOk M where
  low := by
    intro x hx
    have hm : x.rt ∈ M.map RtM.rt := List.mem_map.2 ⟨x, hx, rfl⟩
    have h64 : x.rt.next.length ≤ 64 := by
      rcases h.kinds _ hm with e | e
      · obtain ⟨n, hn, -, -, -, g⟩ := (h.router e).1 hm
        rw [g]
        exact hl n hn
      · obtain ⟨⟨h0, h3⟩, g⟩ := (h.net e).1 hm
        exact hops_few g.sorted fun y hy => by
          obtain ⟨p, hp, -, hy⟩ := (g.mem y).1 hy
          exact ends_ok h0 h3 hO.hops p hp y hy
    have e : x.rt.next = x.next := rfl
    rw [e] at h64
    exact Nat.le_trans h64 (by decide)
  len := by
    obtain ⟨o, -, e⟩ := h
    have h1 := congrArg List.length e
    rw [List.length_map, List.length_append] at h1
    have h2 := nets_len o [0, 1, 2, 3]
    have h3 := rts_len self L
    have h4 : ([0, 1, 2, 3] : List Int).length = 4 := rfl
    omega
  sorted := h.sorted hO.sorted
  kinds := fun x hx => h.kinds _ (List.mem_map.2 ⟨x, hx, rfl⟩)
theorem findR_own {M : List RtM} (h : RtsOk M) {x : RtM} (hx : x ∈ M) : findR M x.kind x.id = some x.rt := by
  have hm : x.rt ∈ M.map RtM.rt := List.mem_map.2 ⟨x, hx, rfl⟩
  cases hf : findR M x.kind x.id with
  | none =>
    unfold findR at hf
    rw [List.find?_eq_none] at hf
    exact absurd (decide_eq_true (show x.rt.kind = x.kind ∧ x.rt.id = x.id from ⟨rfl, rfl⟩)) (hf _ hm)
  | some y =>
    unfold findR at hf
    have h1 := List.mem_of_find?_eq_some hf
    have h2 := List.find?_some hf
    simp only [decide_eq_true_eq] at h2
    rw [route_one h.sorted h1 hm h2.1 h2.2]
theorem findR_iff {M : List RtM} (h : RtsOk M) {k i : Int} {x : Rt} : findR M k i = some x ↔ x ∈ M.map RtM.rt ∧ x.kind = k ∧ x.id = i := by
  constructor
  · intro hf
    unfold findR at hf
    have h2 := List.find?_some hf
    simp only [decide_eq_true_eq] at h2
    exact ⟨List.mem_of_find?_eq_some hf, h2⟩
  · rintro ⟨hm, rfl, rfl⟩
    obtain ⟨y, hy, rfl⟩ := List.mem_map.1 hm
    exact findR_own h hy
theorem findR_other {M : List RtM} (h : RtsOk M) (i : Int) : findR M 3 i = none :=
  findR_not fun p hp e => by rcases h.kinds p hp with g | g <;> omega
theorem routes_nil {self : Int} {F : List Lf} {R : List Rt} (h : RoutesAre self [] F R) : R = [] := by
  obtain ⟨o, ho, rfl⟩ := h
  have hn : ∀ lan : Int, 0 ≤ lan → lan ≤ 3 → o lan = none := fun lan h0 h3 => by
    have := ho lan h0 h3
    cases hl : o lan with
    | none => rfl
    | some p =>
      rw [hl] at this
      obtain ⟨x, hx, -⟩ := EndsAt.had this
      rcases mem_endsV.1 hx with ⟨n, hn, -⟩ | ⟨f, -, n, hn, -⟩
      · cases hn
      · cases hn
  simp [rtsOf, netsOf, netOf, hn 0 (by decide) (by decide), hn 1 (by decide) (by decide), hn 2 (by decide) (by decide), hn 3 (by decide) (by decide)]
theorem tree_few {E : List Ed} {DD : Vx → Vx → Option Val2} {r : Vx} {L : List Nk} (hD : Dists E DD) (h : TreeOf E DD r L) : L.length ≤ 79 := by
  cases hm : mayV r with
  | true => exact tree_len hD hm (h.1 hm)
  | false => rw [h.2 hm]; simp
/-- a row of one route -/
theorem rts_one {w : World} {g : Nat} {x : RtM} (h : Blk w g 44 #[.int .i64 x.kind, .int .i64 x.id, .int .i64 x.cost, .slice x.A x.next.length x.c]) (hr : RowsH w w.heap.size x.A x.next) (hl : x.next.length ≤ 2 ^ 16) : RtsIn w w.heap.size (some ⟨g, 0, none⟩) [x] where
  rows := by
    intro _
    refine ⟨g, 0, rfl, h.lt, fun k hk i u hi hu => ?_⟩
    obtain rfl : k = 0 := by simpa using hk
    rw [show 0 + 0 * 4 + i = i by omega, h.cell]
    simp only [List.getElem_cons_zero, RtM.cells] at hu
    simpa using hu
  each := by
    intro y hy
    rw [List.mem_singleton] at hy
    subst hy
    exact hr
  low := by
    intro y hy
    rw [List.mem_singleton] at hy
    subst hy
    exact hl

end Go.Proofs.YtpnbibokddhheaaGreat
