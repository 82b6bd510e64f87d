/-
  Layer 22: a router's routes: the document's walk.
-/
import Derived.Test.YtpfjgecdlilkcaaGreatBad
import Derived.Test.YtpfjgecdlilkcaaGreatBao
import Derived.Test.YtpfjgecdlilkcaaGreatBap
import Derived.Test.YtpfjgecdlilkcaaGreatBar
import Derived.Test.YtpfjgecdlilkcaaGreatBas
import Derived.Test.YtpfjgecdlilkcaaGreatBau
import Derived.Test.YtpfjgecdlilkcaaGreatBav
namespace Go.Proofs.YtpfjgecdlilkcaaGreat
open Go.RowKit

theorem edges_lenR (f : Int → Int → Option Int) : (edgesC f).length ≤ 2000 := by
  rw [edges_pre, List.length_append]
  have h1 := preA_len f 15
  have h2 := preB_len f 64
  omega
theorem leaves_lenR (f : Int → Int → Option Int) : (leavesC f).length ≤ 100 := by
  rw [leaves_pre]
  have h1 := preF_len f 15
  omega
theorem NodesAt.ins3 {w w' : World} {B : Nat} {A : Option Addr} {n c : Nat} {N : List NodeM} (h : NodesAt w B (.slice A n c) N) (hb : Below w.heap.size w w') (hl : ∀ x ∈ N, x.next.length ≤ 64) : NodesIn w' w'.heap.size A N := h.reads hb fun x hx => Nat.le_trans (hl x hx) (by decide)
/-- routes, and where their hops lie -/
structure RtsBy (w : World) (B B' : Nat) (v : Value) (M : List RtM) : Prop where
  row : OwnR 31 4 RtM.cells w B v M
  each : ∀ x ∈ M, OwnH w B' x.nv x.next
theorem RtsBy.below {w w' : World} {B B' : Nat} {v : Value} {M : List RtM} (h : RtsBy w B B' v M) (hb : Below w.heap.size w w') : RtsBy w' B B' v M := ⟨h.row.below hb, fun x hx => (h.each x hx).below hb⟩
theorem RtsBy.app {w w' : World} {B B' : Nat} {v v' : Value} {M : List RtM} {x : RtM} (h : RtsBy w B B' v M) (hg : w.grownBy w' v.ownBlock) (hr : OwnR 31 4 RtM.cells w' B v' (M ++ [x])) (hx : OwnH w B' x.nv x.next) : RtsBy w' B B' v' (M ++ [x]) where
  row := hr
  each := by
    intro y hy
    rcases List.mem_append.1 hy with hy | hy
    · exact (h.each y hy).kept hg (own_two (h.each y hy) h.row (by decide))
    · rw [List.mem_singleton] at hy
      subst hy
      exact hx.kept hg (own_two hx h.row (by decide))
set_option maxHeartbeats 16000000 in
set_option maxRecDepth 100000 in
theorem refRoutes_any (self : Int) (A : Option Addr) (cap : Nat) (l : List Lsa) (w : World) (hl : RowsAt 9 Lsa.cells w w.heap.size A l) (he : ∀ x ∈ l, RowsAt 4 Lnk.cells w w.heap.size x.ka x.links ∧ RowsAt 1 icell w w.heap.size x.ma x.members) (hlens : ∀ x ∈ l, x.links.length ≤ 1000 ∧ x.members.length ≤ 1000) (hm : l.length ≤ 60) (nn : Nat) (hnn : nn = l.length) (E : List Ed) (hEe : edgesV (l.map vX) = E) (F : List Lf) (hFe : leavesV (l.map vX) = F) (DD : Vx → Vx → Option Val2) (hD : Dists E DD) :
    Calls Tryz.prog 12 #[.int .i64 self, .slice A nn cap] w fun r w' => (∃ v M L, r = .returned v ∧ RtsAt w' w.heap.size v M ∧ TreeOf E DD ⟨1, self⟩ L ∧ RoutesAre self L F (M.map RtM.rt)) ∧ Below w.heap.size w w' := by
  have hEl : E.length ≤ 2000 := by rw [← hEe]; exact edges_lenR _
  have hFl : F.length ≤ 100 := by rw [← hFe]; exact leaves_lenR _
  have hFok : LeavesOk F := by rw [← hFe]; exact leavesOk _
  have HIn := Lib.hid (fun W (hW : Below w.heap.size w W) => (show RowsAt 9 Lsa.cells W W.heap.size A l ∧ ∀ x ∈ l, RowsAt 4 Lnk.cells W W.heap.size x.ka x.links ∧ RowsAt 1 icell W W.heap.size x.ma x.members from ⟨(hl.below hW).more hW.size, fun x hx => ⟨((he x hx).1.below hW).more hW.size, ((he x hx).2.below hW).more hW.size⟩⟩))
  have HC := Lib.hid (fun W (hW : Below w.heap.size w W) => refEdges_any A cap l W (HIn.out W hW).1 (HIn.out W hW).2 hlens (by omega) nn hnn)
  have HLv := Lib.hid (fun W (hW : Below w.heap.size w W) => refLeaves_any A cap l W (HIn.out W hW).1 (HIn.out W hW).2 hlens (by omega) nn hnn)
  rw [hEe] at HC
  rw [hFe] at HLv
  have HFok := Lib.hid hFok
  have HFl := Lib.hid hFl
  have HEl := Lib.hid hEl
  have HD := Lib.hid hD
  clear hl he hlens hm hnn hEe hFe hEl hFl hFok hD HIn
  go_enter Tryz.func12, Tryz.ntmps12
  go_wp2_with fail
  with_reducible refine Calls.mono (HC.out _ (Below.refl _ _)) ?_
  rintro r w1 ⟨⟨v1, rfl, hx1⟩, hb1⟩
  obtain ⟨A1, c1, hv1⟩ := hx1.shape
  subst hv1
  have Hb1 := Lib.hid hb1
  have HT := Lib.hid (refTree_all self A1 c1 E w1 (OwnR.rows (C := 5) (cells := Ed.cells) (fun _ => rfl) hx1).2 (by have := HEl.out; omega) E.length rfl DD HD.out)
  clear hb1 hx1
  go_wp2_with fail
  with_reducible refine Calls.mono HT.out ?_
  rintro r w2 ⟨⟨v2, N, rfl, hN, hT⟩, hb2⟩
  have HTr := Lib.hid hT
  have hOk := nodesOk HD.out (by have := HEl.out; omega) hT
  have HOk := Lib.hid hOk
  have hlow0 := hOk.low hT
  have Hlow := Lib.hid (show ∀ x ∈ N, x.next.length ≤ 64 from fun x hx => hlow0 x.nk (List.mem_map.2 ⟨x, hx, rfl⟩))
  have HNl := Lib.hid (treeOf_len HD.out hT)
  obtain ⟨A2, c2, hv2⟩ := hN.row.shape
  subst hv2
  obtain ⟨nN, hnN⟩ : ∃ n, N.length = n := ⟨_, rfl⟩
  rw [hnN] at hN ⊢
  have HnN := Lib.hid hnN
  have HN := Lib.hid hN
  have hnNi : (nN : Int) ≤ 79 := by have := HNl.out; omega
  have Hb2 := Lib.hid (below_trans Hb1.out Hb1.out.size hb2)
  clear hT hOk hlow0 hN hnN hb2 HT HC
  go_wp2_with fail
  with_reducible refine Calls.mono (HLv.out _ Hb2.out) ?_
  rintro r w3 ⟨⟨v3, rfl, hx3⟩, hb3⟩
  obtain ⟨A3, c3, hv3⟩ := hx3.shape
  subst hv3
  obtain ⟨nF, hnF⟩ : ∃ n, F.length = n := ⟨_, rfl⟩
  rw [hnF] at hx3 ⊢
  have HnF := Lib.hid hnF
  have hnFi : (nF : Int) ≤ 100 := by have := HFl.out; omega
  have hN3 : NodesAt w3 w1.heap.size (.slice A2 nN c2) N := ⟨HN.out.row.below hb3, fun x hx => (HN.out.each x hx).below hb3⟩
  have HN3 := Lib.hid hN3
  have HX3 := Lib.hid hx3
  have Hb3 := Lib.hid (below_trans Hb2.out Hb2.out.size hb3)
  have HRd := Lib.hid (fun W (hW : Below w3.heap.size w3 W) => hN3.ins3 hW Hlow.out)
  clear hx3 hb3 hnF hN3 HLv
  go_wp2_with fail
  go_loopw [5, 8] (fun o i wr => ∃ (k n c : Nat) (Ao : Option Addr) (M : List RtM), i = .int .i64 k ∧ k ≤ nN ∧ o = .slice Ao n c ∧ M.length = n ∧ Below w3.heap.size w3 wr ∧ RtsBy wr w3.heap.size w.heap.size (.slice Ao n c) M ∧ M.map RtM.rt = rtsOf self ((N.take k).map NodeM.nk)) (fun _ i _ => nN - (intOf i).toNat)
  case atStart => exact ⟨0, 0, 0, none, [], rfl, Nat.zero_le _, rfl, rfl, Below.refl _ _, ⟨OwnR.nil _ _, by simp⟩, rfl⟩
  case round =>
    obtain ⟨k, n, c, Ao, M, rfl, hk, rfl, hMn, hb, hR, hM⟩ := hrel
    have HMn := Lib.hid hMn
    have Hb := Lib.hid hb
    have HR := Lib.hid hR
    have HM := Lib.hid hM
    by_cases hlt : k < nN
    · have hki : (k : Int) < (nN : Int) := by omega
      have hkL : k < N.length := by rw [HnN.out]; exact hlt
      have htk : (N.take (k + 1)).map NodeM.nk = (N.take k).map NodeM.nk ++ [(N[k]'hkL).nk] := by rw [List.take_succ_eq_append_getElem hkL, List.map_append]; rfl
      have hin : (N[k]'hkL) ∈ N := List.getElem_mem hkL
      have heach := HN3.out.each _ hin
      have hMl : M.length ≤ 79 := by
        have h1 := congrArg List.length hM
        have h2 := (RtsTo.start (F := []) hM).len
        rw [List.length_map] at h1 h2
        rw [List.length_map, List.length_take] at h2
        omega
      have HMl := Lib.hid hMl
      have Hrow : Hid (∃ b o, A2 = some ⟨b, o, none⟩ ∧ ∀ W, Below w3.heap.size w3 W → W.cell? ⟨b, o + k * 5, none⟩ = some (.int .i64 (N[k]'hkL).v.kind) ∧ W.cell? ⟨b, o + k * 5 + 1, none⟩ = some (.int .i64 (N[k]'hkL).v.id) ∧ W.cell? ⟨b, o + k * 5 + 2, none⟩ = some (.int .i64 (N[k]'hkL).a.c) ∧ W.cell? ⟨b, o + k * 5 + 4, none⟩ = some (.slice (N[k]'hkL).A (N[k]'hkL).next.length (N[k]'hkL).c)) := Lib.hid (by
        obtain ⟨b, o, hA, -⟩ := row_nd (HRd.out w3 (Below.refl _ _)).rows k hkL
        refine ⟨b, o, hA, fun W hW => ?_⟩
        obtain ⟨b', o', hA', -, t0, t1, t2, -, t4⟩ := row_nd (HRd.out W hW).rows k hkL
        rw [hA] at hA'
        cases hA'
        exact ⟨t0, t1, t2, t4⟩)
      obtain ⟨bN, oN, hAN, hrow⟩ := Hrow.out
      have Hlt := Lib.hid hlt
      generalize (N[k]'hkL) = x at *
      obtain ⟨⟨xk, xi⟩, ⟨xa, xh⟩, xA, xc, xn⟩ := x
      simp only [NodeM.nk, NodeM.nv] at hrow htk heach
      obtain ⟨nl, hnl⟩ : ∃ n, xn.length = n := ⟨_, rfl⟩
      rw [hnl] at hrow heach
      have Hnl := Lib.hid hnl
      have Htk := Lib.hid htk
      have Hrw := Lib.hid hrow
      have Heach := Lib.hid heach
      obtain ⟨x0, x1, x2, x4⟩ := hrow wr hb
      subst hAN
      clear hMn hb hR hM hlt hkL htk hin hk hnl hMl Hrow hrow heach
      by_cases h1 : xk = 1
      · have e1 : (xk == 1) = true := by simp [h1]
        by_cases hs : xi = self
        · have e2 : (xi != self) = false := by simp [hs]
          have Hro := Lib.hid (show rtOf self ⟨⟨xk, xi⟩, ⟨xa, xh⟩, xn⟩ = [] from if_neg fun h => h.2 hs)
          clear hs h1
          go_wp2
          go_roundw
          case measure => have := Hlt.out; simp [intOf]; omega
          case rel => exact ⟨k + 1, n, c, Ao, M, by go_num, Hlt.out, rfl, HMn.out, Hb.out, HR.out, by rw [Htk.out, rtsOf_snoc, HM.out, Hro.out, List.append_nil]⟩
        · have e2 : (xi != self) = true := by simp [hs]
          have Hro := Lib.hid (show rtOf self ⟨⟨xk, xi⟩, ⟨xa, xh⟩, xn⟩ = [⟨1, xi, xa, xn⟩] from if_pos ⟨h1, hs⟩)
          clear hs h1
          go_wp2
          refine wp_region_F (F := fun W => Below w3.heap.size w3 W) (n := 20) (m := 21) (s := #[false, false, false, false, false, false, false, false, false, false, false, false, false, false, false, false, false, false, false, false, false]) (by kernel_rfl) (by kernel_rfl) (by kernel_rfl) ?_
          intro wd hwd
          have hF : Below w3.heap.size w3 wd := by rw [hwd.out]; exact Hb.out.drew
          have hRd : RtsBy wd w3.heap.size w.heap.size (.slice Ao n c) M := by rw [hwd.out]; exact HR.out.below (Below.refl _ _).drew
          clear hwd
          refine F_take (i := 0) (d := some 44) (by kernel_rfl) (by kernel_rfl) (by decide) (s' := #[true, false, false, false, false, false, false, false, false, false, false, false, false, false, false, false, false, false, false, false, false]) (by kernel_rfl) rfl rfl (by kernel_rfl) (by kernel_rfl) (by kernel_rfl) (fun _ _ _ h => h) (Or.inl ⟨by kernel_rfl, fun W hW => by go_simp; try with_reducible rfl⟩) hF ?_
          go_frame
          refine F_take (i := 1) (d := some 45) (by kernel_rfl) (by kernel_rfl) (by decide) (s' := #[true, true, false, false, false, false, false, false, false, false, false, false, false, false, false, false, false, false, false, false, false]) (by kernel_rfl) rfl rfl (by kernel_rfl) (by kernel_rfl) (by kernel_rfl) (fun _ _ _ h => h) (Or.inl ⟨by kernel_rfl, fun W hW => by go_simp; try with_reducible rfl⟩) hF ?_
          go_frame
          refine F_take (i := 2) (d := some 46) (by kernel_rfl) (by kernel_rfl) (by decide) (s' := #[true, true, true, false, false, false, false, false, false, false, false, false, false, false, false, false, false, false, false, false, false]) (by kernel_rfl) rfl rfl (by kernel_rfl) (by kernel_rfl) (by kernel_rfl) (fun _ _ _ h => h) (Or.inl ⟨by kernel_rfl, fun W hW => by go_simp; try with_reducible rfl⟩) hF ?_
          go_frame
          refine F_take (i := 3) (d := some 47) (by kernel_rfl) (by kernel_rfl) (by decide) (s' := #[true, true, true, true, false, false, false, false, false, false, false, false, false, false, false, false, false, false, false, false, false]) (by kernel_rfl) rfl rfl (by kernel_rfl) (by kernel_rfl) (by kernel_rfl) (fun _ _ _ h => h) (Or.inl ⟨by kernel_rfl, fun W hW => by go_simp; try with_reducible rfl⟩) hF ?_
          go_frame
          refine F_take (i := 4) (d := some 48) (by kernel_rfl) (by kernel_rfl) (by decide) (s' := #[true, true, true, true, true, false, false, false, false, false, false, false, false, false, false, false, false, false, false, false, false]) (by kernel_rfl) rfl rfl (by kernel_rfl) (by kernel_rfl) (by kernel_rfl) (fun _ _ _ h => h) (Or.inl ⟨by kernel_rfl, fun W hW => by go_simp; try with_reducible rfl⟩) hF ?_
          go_frame
          refine F_take (i := 5) (d := some 49) (by kernel_rfl) (by kernel_rfl) (by decide) (s' := #[true, true, true, true, true, true, false, false, false, false, false, false, false, false, false, false, false, false, false, false, false]) (by kernel_rfl) rfl rfl (by kernel_rfl) (by kernel_rfl) (by kernel_rfl) (fun _ _ _ h => h) (Or.inl ⟨by kernel_rfl, fun W hW => by go_simp; try with_reducible rfl⟩) hF ?_
          go_frame
          refine F_take (i := 6) (d := some 50) (by kernel_rfl) (by kernel_rfl) (by decide) (s' := #[true, true, true, true, true, true, true, false, false, false, false, false, false, false, false, false, false, false, false, false, false]) (by kernel_rfl) rfl rfl (by kernel_rfl) (by kernel_rfl) (by kernel_rfl) (fun _ _ _ h => h) (Or.inl ⟨by kernel_rfl, fun W hW => by obtain ⟨t0, t1, t2, t4⟩ := Hrw.out W hW; go_simp; try with_reducible rfl⟩) hF ?_
          go_frame
          refine F_take (i := 7) (d := some 51) (by kernel_rfl) (by kernel_rfl) (by decide) (s' := #[true, true, true, true, true, true, true, true, false, false, false, false, false, false, false, false, false, false, false, false, false]) (by kernel_rfl) rfl rfl (by kernel_rfl) (by kernel_rfl) (by kernel_rfl) (fun _ _ _ h => h) (Or.inl ⟨by kernel_rfl, fun W hW => by go_simp; try with_reducible rfl⟩) hF ?_
          go_frame
          refine F_take (i := 8) (d := some 52) (by kernel_rfl) (by kernel_rfl) (by decide) (s' := #[true, true, true, true, true, true, true, true, true, false, false, false, false, false, false, false, false, false, false, false, false]) (by kernel_rfl) rfl rfl (by kernel_rfl) (by kernel_rfl) (by kernel_rfl) (fun _ _ _ h => h) (Or.inl ⟨by kernel_rfl, fun W hW => by go_simp; try with_reducible rfl⟩) hF ?_
          go_frame
          refine F_take (i := 9) (d := some 53) (by kernel_rfl) (by kernel_rfl) (by decide) (s' := #[true, true, true, true, true, true, true, true, true, true, false, false, false, false, false, false, false, false, false, false, false]) (by kernel_rfl) rfl rfl (by kernel_rfl) (by kernel_rfl) (by kernel_rfl) (fun _ _ _ h => h) (Or.inl ⟨by kernel_rfl, fun W hW => by go_simp; try with_reducible rfl⟩) hF ?_
          go_frame
          refine F_take (i := 10) (d := some 54) (by kernel_rfl) (by kernel_rfl) (by decide) (s' := #[true, true, true, true, true, true, true, true, true, true, true, false, false, false, false, false, false, false, false, false, false]) (by kernel_rfl) rfl rfl (by kernel_rfl) (by kernel_rfl) (by kernel_rfl) (fun _ _ _ h => h) (Or.inl ⟨by kernel_rfl, fun W hW => by go_simp; try with_reducible rfl⟩) hF ?_
          go_frame
          refine F_take (i := 11) (d := some 55) (by kernel_rfl) (by kernel_rfl) (by decide) (s' := #[true, true, true, true, true, true, true, true, true, true, true, true, false, false, false, false, false, false, false, false, false]) (by kernel_rfl) rfl rfl (by kernel_rfl) (by kernel_rfl) (by kernel_rfl) (fun _ _ _ h => h) (Or.inl ⟨by kernel_rfl, fun W hW => by obtain ⟨t0, t1, t2, t4⟩ := Hrw.out W hW; go_simp; try with_reducible rfl⟩) hF ?_
          go_frame
          refine F_take (i := 12) (d := some 56) (by kernel_rfl) (by kernel_rfl) (by decide) (s' := #[true, true, true, true, true, true, true, true, true, true, true, true, true, false, false, false, false, false, false, false, false]) (by kernel_rfl) rfl rfl (by kernel_rfl) (by kernel_rfl) (by kernel_rfl) (fun _ _ _ h => h) (Or.inl ⟨by kernel_rfl, fun W hW => by go_simp; try with_reducible rfl⟩) hF ?_
          go_frame
          refine F_take (i := 13) (d := some 57) (by kernel_rfl) (by kernel_rfl) (by decide) (s' := #[true, true, true, true, true, true, true, true, true, true, true, true, true, true, false, false, false, false, false, false, false]) (by kernel_rfl) rfl rfl (by kernel_rfl) (by kernel_rfl) (by kernel_rfl) (fun _ _ _ h => h) (Or.inl ⟨by kernel_rfl, fun W hW => by go_simp; try with_reducible rfl⟩) hF ?_
          go_frame
          refine F_take (i := 14) (d := some 58) (by kernel_rfl) (by kernel_rfl) (by decide) (s' := #[true, true, true, true, true, true, true, true, true, true, true, true, true, true, true, false, false, false, false, false, false]) (by kernel_rfl) rfl rfl (by kernel_rfl) (by kernel_rfl) (by kernel_rfl) (fun _ _ _ h => h) (Or.inl ⟨by kernel_rfl, fun W hW => by go_simp; try with_reducible rfl⟩) hF ?_
          go_frame
          refine F_take (i := 15) (d := some 59) (by kernel_rfl) (by kernel_rfl) (by decide) (s' := #[true, true, true, true, true, true, true, true, true, true, true, true, true, true, true, true, false, false, false, false, false]) (by kernel_rfl) rfl rfl (by kernel_rfl) (by kernel_rfl) (by kernel_rfl) (fun _ _ _ h => h) (Or.inl ⟨by kernel_rfl, fun W hW => by go_simp; try with_reducible rfl⟩) hF ?_
          go_frame
          refine F_take (i := 16) (d := some 60) (by kernel_rfl) (by kernel_rfl) (by decide) (s' := #[true, true, true, true, true, true, true, true, true, true, true, true, true, true, true, true, true, false, false, false, false]) (by kernel_rfl) rfl rfl (by kernel_rfl) (by kernel_rfl) (by kernel_rfl) (fun _ _ _ h => h) (Or.inl ⟨by kernel_rfl, fun W hW => by obtain ⟨t0, t1, t2, t4⟩ := Hrw.out W hW; go_simp; try with_reducible rfl⟩) hF ?_
          go_frame
          refine F_take (i := 17) (d := some 61) (by kernel_rfl) (by kernel_rfl) (by decide) (s' := #[true, true, true, true, true, true, true, true, true, true, true, true, true, true, true, true, true, true, false, false, false]) (by kernel_rfl) rfl rfl (by kernel_rfl) (by kernel_rfl) (by kernel_rfl) (fun _ _ _ h => h) (Or.inl ⟨by kernel_rfl, fun W hW => by go_simp; try with_reducible rfl⟩) hF ?_
          go_frame
          obtain ⟨wq, hV⟩ : ∃ v, wd.alloc (.cells #[.int .i64 1, .int .i64 xi, .int .i64 xa, .slice xA nl xc] 31) = v := ⟨_, rfl⟩
          have hbq := below_new wd (.cells #[.int .i64 1, .int .i64 xi, .int .i64 xa, .slice xA nl xc] 31)
          have kq := Blk.new wd 31 #[.int .i64 1, .int .i64 xi, .int .i64 xa, .slice xA nl xc]
          obtain ⟨pq, hpq⟩ : ∃ p, wd.heap.size = p := ⟨_, rfl⟩
          rw [hV] at hbq kq
          rw [hpq] at kq
          have hF := below_trans hF hF.size hbq
          have hRq := hRd.below hbq
          refine F_one (i := 18) (s' := #[true, true, true, true, true, true, true, true, true, true, true, true, true, true, true, true, true, true, true, false, false]) (by kernel_rfl) (by kernel_rfl) (wpOp_valueL (i := 18) (d := some 62) (w' := wq) (v := .slice (some ⟨pq, 0, none⟩) 1 1) rfl rfl (by kernel_rfl) (by go_simp) ⟨fun _ => hF, ?_⟩)
          go_frame
          clear hV hpq
          obtain ⟨va, wa, hrun, hoa, hg2, hor⟩ := app_row_run (e := 31) (sl := 25) RtM.cells (fun _ => rfl) (by decide) (bytes := 48) (by decide) infoRt rfl Tryz.underlying25 onesRt (w := wq) 25 w3.heap.size (.slice Ao n c) M hRq.row pq ⟨1, xi, xa, xA, xc, xn⟩ (by unfold RtM.cells; simp only; rw [Hnl.out]; exact kq) (by have := HMl.out; omega) hF.size
          have hoX : OwnH wq w.heap.size (.slice xA nl xc) xn := OwnR.lower (Heach.out.below hF) Hb1.out.size
          have hRz := hRq.app (x := ⟨1, xi, xa, xA, xc, xn⟩) hg2 hoa (by unfold RtM.nv; simp only; rw [Hnl.out]; exact hoX)
          have hF := hF.grown hg2 hF.size (fun m e => (hRq.row.block m e).1)
          refine F_one (i := 19) (s' := #[true, true, true, true, true, true, true, true, true, true, true, true, true, true, true, true, true, true, true, true, false]) (by kernel_rfl) (by kernel_rfl) (wpOp_appendL (i := 19) (d := some 63) (t := 25) rfl rfl rfl (by kernel_rfl) rfl (by rfl) (by rfl) hrun ⟨fun _ => hF, ?_⟩)
          go_frame
          clear hrun
          obtain ⟨Aa, ca, hva⟩ := hoa.shape
          subst hva
          refine F_one (i := 20) (s' := #[true, true, true, true, true, true, true, true, true, true, true, true, true, true, true, true, true, true, true, true, true]) (by kernel_rfl) (by kernel_rfl) (wpOp_valueL (i := 20) (d := some 5) (w' := wa) (v := .slice Aa (M ++ [(⟨1, xi, xa, xA, xc, xn⟩ : RtM)]).length ca) rfl rfl (by kernel_rfl) (by go_simp) ⟨fun h => absurd h (by decide), ?_⟩)
          go_frame
          refine F_done (by kernel_rfl) ?_ _
          have HRz := Lib.hid hRz
          have Hbz := Lib.hid hF
          clear hRz hF hoa hg2 hor kq hRq hRd hbq hoX
          go_wp2
          go_roundw
          case measure => have := Hlt.out; simp [intOf]; omega
          case rel => exact ⟨k + 1, _, _, _, _, by go_num, Hlt.out, rfl, rfl, Hbz.out, HRz.out, by rw [Htk.out, rtsOf_snoc, List.map_append, HM.out, Hro.out]; rfl⟩
      · have e1 : (xk == 1) = false := by simp [h1]
        have Hro := Lib.hid (show rtOf self ⟨⟨xk, xi⟩, ⟨xa, xh⟩, xn⟩ = [] from if_neg fun h => h1 h.1)
        clear h1
        go_wp2
        go_roundw
        case measure => have := Hlt.out; simp [intOf]; omega
        case rel => exact ⟨k + 1, n, c, Ao, M, by go_num, Hlt.out, rfl, HMn.out, Hb.out, HR.out, by rw [Htk.out, rtsOf_snoc, HM.out, Hro.out, List.append_nil]⟩
    · have hke : k = nN := by omega
      have hkk : ¬ (k : Int) < (nN : Int) := by omega
      rw [hke, ← HnN.out, List.take_length] at hM
      have HME := Lib.hid (RtsTo.start (F := F) hM)
      obtain ⟨wL, hwL⟩ : ∃ x : World, x = wr := ⟨_, rfl⟩
      rw [← hwL] at HR Hb
      subst hwL
      clear hMn hb hR hM hlt hke hk HM
      go_wp2_with fail
      go_loopw [5, 9] (fun o i wr => ∃ (k n c : Nat) (Ao : Option Addr) (M : List RtM), i = .int .i64 k ∧ k ≤ 4 ∧ o = .slice Ao n c ∧ M.length = n ∧ Below w3.heap.size w3 wr ∧ RtsBy wr w3.heap.size w.heap.size (.slice Ao n c) M ∧ RtsTo self (N.map NodeM.nk) F k (M.map RtM.rt)) (fun _ i _ => 4 - (intOf i).toNat)
      case atStart => exact ⟨0, n, c, Ao, M, rfl, by omega, rfl, HMn.out, Hb.out, HR.out, HME.out⟩
      case round =>
        obtain ⟨k, n, c, Ao, M, rfl, hk, rfl, hMn, hb, hR, hTo⟩ := hrel
        have HMn := Lib.hid hMn
        have Hb := Lib.hid hb
        have HR := Lib.hid hR
        have HTo := Lib.hid hTo
        by_cases hlt : k < 4
        · have hki : (k : Int) ≤ 3 := by omega
          have Hlt := Lib.hid hlt
          have HEn := Lib.hid (refEnds_any self k A2 A3 c2 nN c3 nF N F wr (HRd.out wr hb) (OwnR.rows (C := 3) (cells := Lf.cells) (fun _ => rfl) (HX3.out.below hb)).2 HOk.out HFok.out Hlow.out HNl.out HFl.out HnN.out HnF.out)
          clear hMn hb hR hTo hlt hk
          go_wp2_with fail
          with_reducible refine Calls.mono HEn.out ?_
          rintro r we ⟨⟨Ae, ne, ce, X, rfl, hXe, hXn, hXin⟩, hbe⟩
          have Hbe := Lib.hid (below_trans Hb.out Hb.out.size hbe)
          have HRe := Lib.hid (HR.out.below hbe)
          have HXin := Lib.hid (fun W (hW : Below we.heap.size we W) => (hXin.below hW).more hW.size)
          have hXl : ne ≤ 400 := by
            have h1 := congrArg List.length hXe
            unfold endsV at h1
            rw [List.length_map, List.length_append] at h1
            have h2 := nodeEnds_len k (N.map NodeM.nk)
            have h3 := leafEnds_len (self := self) (lan := k) HOk.out.sorted F
            rw [List.length_map] at h2
            have := HNl.out
            have := HFl.out
            omega
          have HXl := Lib.hid hXl
          have HXe := Lib.hid hXe
          have HXn := Lib.hid hXn
          have hXni : (ne : Int) ≤ 400 := by omega
          have hMl : M.length ≤ 90 := by
            have h2 := HTo.out.len
            rw [List.length_map, List.length_map] at h2
            have := HNl.out
            have := Hlt.out
            omega
          have HMl := Lib.hid hMl
          clear hbe hXin hXe hXl hMl HEn
          by_cases hz : ne = 0
          · have hz0 : ((ne : Int) == 0) = true := by simp [hz]
            have Hnx := Lib.hid (HTo.out.next none (show endsV self k (N.map NodeM.nk) F = [] by rw [← HXe.out, List.map_eq_nil_iff]; exact List.eq_nil_of_length_eq_zero (by rw [HXn.out]; exact hz)))
            clear hz hXn
            go_wp2
            go_roundw
            case measure => have := Hlt.out; simp [intOf]; omega
            case rel => exact ⟨k + 1, n, c, Ao, M, by go_num, Hlt.out, rfl, HMn.out, Hbe.out, HRe.out, by have h := Hnx.out; simpa [rtNew] using h⟩
          · have hz0 : ((ne : Int) == 0) = false := by simp; omega
            have h0n : 0 < X.length := by omega
            have h0i : 0 < (ne : Int) := by omega
            have Hrow := Lib.hid (fun W (hW : Below we.heap.size we W) (j : Nat) (hj : j < X.length) => row_en (HXin.out W hW).rows j hj)
            obtain ⟨ge, oe, hAe, -, x0, -⟩ := Hrow.out we (Below.refl _ _) 0 h0n
            have hls : LeastC (X.map EndM.ev) 0 (X[0]'h0n).c := LeastC.start (x := (X[0]'h0n).ev) (by rw [List.getElem?_map, List.getElem?_eq_getElem h0n]; rfl)
            generalize (X[0]'h0n).c = c0 at x0 hls
            subst hAe
            simp only [Nat.zero_mul, Nat.add_zero] at x0
            have Hls := Lib.hid hls
            have hb6 := below_new we (.cells #[.int .i64 2, .int .i64 k, .int .i64 c0, .slice none 0 0] 31)
            have hk6 := Blk.new we 31 #[.int .i64 2, .int .i64 k, .int .i64 c0, .slice none 0 0]
            obtain ⟨w6, hw6⟩ : ∃ v, we.alloc (.cells #[.int .i64 2, .int .i64 k, .int .i64 c0, .slice none 0 0] 31) = v := ⟨_, rfl⟩
            obtain ⟨g11, hg11⟩ : ∃ v, we.heap.size = v := ⟨_, rfl⟩
            rw [hw6, hg11] at hk6
            rw [hw6] at hb6
            have hg11' : we.heap.size ≤ g11 := by omega
            obtain ⟨⟨q0, q1, q2, q3⟩, p0, p1, p2, p3⟩ := blk4r hk6
            have hk6z := (hk6.set_ 3 (.slice none 0 0)).to (cs' := #[.int .i64 2, .int .i64 k, .int .i64 c0, .slice none 0 0]) (by simp)
            have hb6z := hb6.setCell (p := ⟨g11, 3, none⟩) hg11' (.slice none 0 0)
            obtain ⟨w6z, hw6z⟩ : ∃ v, w6.setCell ⟨g11, 3, none⟩ (.slice none 0 0) = v := ⟨_, rfl⟩
            rw [hw6z] at hk6z hb6z
            have Hb6 := Lib.hid hb6z
            have Hk6 := Lib.hid hk6z
            have Hg11 := Lib.hid hg11'
            clear hb6 hk6 hls h0n hz hXn hk6z hb6z hg11'
            go_wp2_with fail
            clear hw6 hg11 x0 hw6z q0 q1 q2 q3 p0 p1 p2 p3
            obtain ⟨wo, hwo⟩ : ∃ x : World, x = wr := ⟨_, rfl⟩
            go_loopw [12] (fun i wr => ∃ (j cc : Nat), i = .int .i64 j ∧ j ≤ ne ∧ Below we.heap.size we wr ∧ Blk wr g11 31 #[.int .i64 2, .int .i64 k, .int .i64 cc, .slice none 0 0] ∧ LeastC (X.map EndM.ev) j cc) (fun i _ => ne - (intOf i).toNat)
            case atStart => exact ⟨0, c0, rfl, Nat.zero_le _, Hb6.out, Hk6.out, Hls.out⟩
            case round =>
              obtain ⟨j, cc, rfl, hj, hb, hkr, hlc⟩ := hrel
              have Hb := Lib.hid hb
              have Hkr := Lib.hid hkr
              have Hlc := Lib.hid hlc
              obtain ⟨⟨r0, r1, r2, r3⟩, s0, s1, s2, s3⟩ := blk4r hkr
              by_cases hlj : j < ne
              · have hji : (j : Int) < (ne : Int) := by omega
                have hjX : j < X.length := by rw [HXn.out]; exact hlj
                have hjE : j < (X.map EndM.ev).length := by rw [List.length_map]; exact hjX
                obtain ⟨g', o', hA', -, x0, -⟩ := Hrow.out wr hb j hjX
                have hxe : (X.map EndM.ev)[j].1 = (X[j]'hjX).c := by rw [List.getElem_map]; rfl
                have hless := fun h => hlc.less hjE h
                have hnot := fun h => hlc.not hjE h
                rw [hxe] at hless hnot
                generalize (X[j]'hjX).c = xc at x0 hless hnot hxe
                have Hless := Lib.hid hless
                have Hnot := Lib.hid hnot
                have Hlj := Lib.hid hlj
                cases hA'
                clear hb hkr hlc hlj hjX hjE hless hnot hxe hj
                by_cases hc : xc < cc
                · have hci : (xc : Int) < (cc : Int) := by omega
                  have Hn := Lib.hid (Hless.out hc)
                  have hk9 := (Hkr.out.set_ 2 (.int .i64 xc)).to (cs' := #[.int .i64 2, .int .i64 k, .int .i64 xc, .slice none 0 0]) (by simp)
                  have Hk9 := Lib.hid hk9
                  have Hb9 := Lib.hid (Hb.out.setCell (p := ⟨g11, 2, none⟩) Hg11.out (.int .i64 xc))
                  clear hc hk9
                  go_wp2
                  go_quiet (fail)
                  go_wp2
                  go_roundw
                  case measure => have := Hlj.out; simp [intOf]; omega
                  case rel => exact ⟨j + 1, xc, by go_num, Hlj.out, (below_drewN Hb.out _).setCell (p := ⟨g11, 2, none⟩) Hg11.out _, ((Hkr.out.drewN _).set_ 2 (.int .i64 xc)).to (by simp), Hn.out⟩
                · have hci : ¬ (xc : Int) < (cc : Int) := by omega
                  have Hn := Lib.hid (Hnot.out hc)
                  clear hc
                  go_wp2
                  go_quiet (fail)
                  go_wp2
                  go_roundw
                  case measure => have := Hlj.out; simp [intOf]; omega
                  case rel => exact ⟨j + 1, cc, by go_num, Hlj.out, below_drewN Hb.out _, Hkr.out.drewN _, Hn.out⟩
              · have hje : j = ne := by omega
                have hjj : ¬ (j : Int) < (ne : Int) := by omega
                rw [hje, ← HXn.out] at hlc
                have HLc := Lib.hid (show LeastC (X.map EndM.ev) (X.map EndM.ev).length cc by rw [List.length_map]; exact hlc)
                obtain ⟨wq, hwq⟩ : ∃ x : World, x = wr := ⟨_, rfl⟩
                rw [← hwq] at Hb Hkr
                subst hwq
                have Hwe6 := Lib.hid (show g11 + 1 ≤ wq.heap.size from hkr.lt)
                clear hb hkr hlc hlj hje hj r0 r1 r2 r3 s0 s1 s2 s3 Hlc
                go_wp2_with fail
                go_loopw [13] (fun i wr => ∃ (a n c : Nat) (A : Option Addr), i = .int .i64 a ∧ a ≤ 4 ∧ Below we.heap.size we wr ∧ Blk wr g11 31 #[.int .i64 2, .int .i64 k, .int .i64 cc, .slice A n c] ∧ OwnH wr (g11 + 1) (.slice A n c) (hopsTo (X.map EndM.ev) cc (16 * a + 0)) ∧ (hopsTo (X.map EndM.ev) cc (16 * a + 0)).length = n) (fun i _ => 4 - (intOf i).toNat)
                case atStart => exact ⟨0, 0, 0, none, rfl, by omega, Hb.out, Hkr.out, OwnR.nil _ _, rfl⟩
                case round =>
                  obtain ⟨a, n9, c9, A9, rfl, ha, hb, hkr, hoh, hln⟩ := hrel
                  have HbA := Lib.hid hb
                  have HkA := Lib.hid hkr
                  have HoA := Lib.hid hoh
                  have HlA := Lib.hid hln
                  by_cases hla : a < 4
                  · have hai : (a : Int) ≤ 3 := by omega
                    have Hla := Lib.hid hla
                    obtain ⟨wp, hwp⟩ : ∃ x : World, x = wr := ⟨_, rfl⟩
                    rw [← hwp] at HbA HkA HoA
                    subst hwp
                    clear hb hkr hoh hln hla ha
                    go_wp2_with fail
                    go_loopw [14] (fun i wr => ∃ (b n c : Nat) (A : Option Addr), i = .int .i64 b ∧ b ≤ 16 ∧ Below we.heap.size we wr ∧ Blk wr g11 31 #[.int .i64 2, .int .i64 k, .int .i64 cc, .slice A n c] ∧ OwnH wr (g11 + 1) (.slice A n c) (hopsTo (X.map EndM.ev) cc (16 * a + b)) ∧ (hopsTo (X.map EndM.ev) cc (16 * a + b)).length = n) (fun i _ => 16 - (intOf i).toNat)
                    case atStart => exact ⟨0, n9, c9, A9, rfl, by omega, HbA.out, HkA.out, HoA.out, HlA.out⟩
                    case round =>
                      obtain ⟨b, n8, c8, A8, rfl, hb4, hb, hkr, hoh, hln⟩ := hrel
                      by_cases hlb : b < 16
                      · have hbi : (b : Int) ≤ 15 := by omega
                        have Hlb := Lib.hid hlb
                        have Hbr := Lib.hid hb
                        have Hkr := Lib.hid hkr
                        have hstep := hopsTo_next (X.map EndM.ev) cc Hla.out hlb
                        have hl64 := hopsTo_len (X.map EndM.ev) cc (16 * a + b)
                        obtain ⟨Q, hQ⟩ : ∃ Q, hopsTo (X.map EndM.ev) cc (16 * a + b) = Q := ⟨_, rfl⟩
                        rw [hQ] at hoh hln hstep hl64
                        have Hoh := Lib.hid hoh
                        have Hln := Lib.hid hln
                        have Hl64 := Lib.hid hl64
                        obtain ⟨t, ht⟩ : ∃ t, hasB (X.map EndM.ev) cc ⟨(a : Int), (b : Int)⟩ = t := ⟨_, rfl⟩
                        rw [ht] at hstep
                        have Hstep := Lib.hid hstep
                        have HHas := Lib.hid (refHas_any (some ⟨ge, oe, none⟩) ce ne cc a b X wr (HXin.out wr hb) (by have := HXl.out; have := HXn.out; omega) HXn.out.symm ht)
                        obtain ⟨⟨r0, r1, r2, r3⟩, s0, s1, s2, s3⟩ := blk4r hkr
                        clear hb hkr hoh hln hlb hb4 hstep hl64 ht hQ
                        go_wp2_with fail
                        with_reducible refine Calls.mono HHas.out ?_
                        clear r0 r1 r2 r3 s0 s1 s2 s3
                        rintro r ws ⟨rfl, hbs⟩
                        have Hbs := Lib.hid (below_trans Hbr.out Hbr.out.size hbs)
                        have Hks := Lib.hid (Hkr.out.below hbs Hkr.out.lt)
                        have Hos := Lib.hid (OwnR.below Hoh.out hbs)
                        clear hbs HHas
                        cases t with
                        | false =>
                          have Hst := Lib.hid (show hopsTo (X.map EndM.ev) cc (16 * a + (b + 1)) = Q by rw [← Nat.add_assoc, Hstep.out]; simp)
                          go_wp2
                          go_roundw
                          case measure => have := Hlb.out; simp [intOf]; omega
                          case rel => exact ⟨b + 1, n8, c8, A8, by go_num, Hlb.out, Hbs.out, Hks.out, by rw [Hst.out]; exact Hos.out, by rw [Hst.out]; exact Hln.out⟩
                        | true =>
                          have Hst := Lib.hid (show hopsTo (X.map EndM.ev) cc (16 * a + (b + 1)) = Q ++ [⟨(a : Int), (b : Int)⟩] by rw [← Nat.add_assoc, Hstep.out]; simp)
                          obtain ⟨⟨r0, r1, r2, r3⟩, s0, s1, s2, s3⟩ := blk4r Hks.out
                          go_wp2_with (at_builtin; (refine app_row (e := 50) Hp.cells (fun _ => rfl) (by decide) (bytes := 16) (by decide) infoH rfl Tryz.underlying29 onesHp (by rfl) _ _ (by rfl) (g11 + 1) _ Q (by rfl) (Hos.out.alloc _) ws.heap.size ⟨(a : Int), (b : Int)⟩ (by rfl) (Blk.new _ _ _) (by have := Hl64.out; omega) (by have := Hks.out.lt; simp; omega) ?_))
                          intro v7 w7 hown7 hg7 hor7
                          obtain ⟨A7, c7, hv7⟩ := hown7.shape
                          subst hv7
                          obtain ⟨n7, hn7⟩ : ∃ n, (Q ++ [(⟨(a : Int), (b : Int)⟩ : Hp)]).length = n := ⟨_, rfl⟩
                          rw [hn7] at hown7 ⊢
                          have hbA := below_new ws (.cells #[.int .i64 a, .int .i64 b] 50)
                          have hk7 := (Hks.out.below hbA Hks.out.lt).grown hg7 (own_ne_some (OwnR.below Hos.out hbA) (Hks.out.below hbA Hks.out.lt) (by decide))
                          have hb7 := (below_trans Hbs.out Hbs.out.size hbA).grown hg7 (below_trans Hbs.out Hbs.out.size hbA).size (fun m e => by have := ((OwnR.below Hos.out hbA).block m e).1; have := Hg11.out; omega)
                          clear r0 r1 r2 r3 s0 s1 s2 s3 hbA
                          obtain ⟨⟨r0, r1, r2, r3⟩, s0, s1, s2, s3⟩ := blk4r hk7
                          obtain ⟨w5, hw5⟩ : ∃ v, w7.setCell ⟨g11, 3, none⟩ (.slice A7 n7 c7) = v := ⟨_, rfl⟩
                          have hk5 := (hk7.set_ 3 (.slice A7 n7 c7)).to (cs' := #[.int .i64 2, .int .i64 k, .int .i64 cc, .slice A7 n7 c7]) (by simp)
                          have ho5 := OwnR.set_ hown7 (p := ⟨g11, 3, none⟩) (Nat.lt_succ_self _) (.slice A7 n7 c7)
                          have hb5 := hb7.setCell (p := ⟨g11, 3, none⟩) Hg11.out (.slice A7 n7 c7)
                          rw [hw5] at hk5 ho5 hb5
                          have Hk5 := Lib.hid hk5
                          have Ho5 := Lib.hid ho5
                          have Hb5 := Lib.hid hb5
                          have Hn7 := Lib.hid hn7
                          clear hown7 hg7 hor7 hk7 hb7 hk5 ho5 hb5 hn7
                          go_wp2
                          go_roundw
                          case measure => have := Hlb.out; simp [intOf]; omega
                          case rel => exact ⟨b + 1, n7, c7, A7, by go_num, Hlb.out, Hb5.out, Hk5.out, by rw [Hst.out]; exact Ho5.out, by rw [Hst.out]; exact Hn7.out⟩
                      · have hbe : b = 16 := by omega
                        have hbb : ¬ (b : Int) ≤ 15 := by omega
                        rw [hbe] at hoh hln
                        have Hb := Lib.hid hb
                        have Hkr := Lib.hid hkr
                        have Hoh := Lib.hid hoh
                        have Hln := Lib.hid hln
                        clear hb hkr hoh hln hlb hbe hb4
                        go_wp2
                        go_roundw
                        case measure => have := Hla.out; simp [intOf]; omega
                        case rel => exact ⟨a + 1, n8, c8, A8, by go_num, Hla.out, Hb.out, Hkr.out, by rw [show 16 * (a + 1) + 0 = 16 * a + 16 by omega]; exact Hoh.out, by rw [show 16 * (a + 1) + 0 = 16 * a + 16 by omega]; exact Hln.out⟩
                  · have hae : a = 4 := by omega
                    have haa : ¬ (a : Int) ≤ 3 := by omega
                    rw [hae] at hoh hln
                    have hoh' : OwnH wr (g11 + 1) (.slice A9 n9 c9) (hopsTo (X.map EndM.ev) cc 64) := hoh
                    have hln' : (hopsTo (X.map EndM.ev) cc 64).length = n9 := hln
                    have hends := ends_of HLc.out (by rw [HXe.out]; exact ends_ok (by omega) (by omega) HOk.out.hops)
                    rw [HXe.out] at hends
                    have Hnx := Lib.hid (HTo.out.next (some (cc, hopsTo (X.map EndM.ev) cc 64)) (by rw [HXe.out]; exact hends))
                    obtain ⟨Q, hQ⟩ : ∃ Q, hopsTo (X.map EndM.ev) cc 64 = Q := ⟨_, rfl⟩
                    rw [hQ] at hoh' hln' Hnx
                    have Hoh := Lib.hid hoh'
                    have Hln := Lib.hid hln'
                    have HRz := Lib.hid (HRe.out.below hb)
                    have HbZ := Lib.hid (below_trans Hbe.out Hbe.out.size hb)
                    obtain ⟨⟨r0, r1, r2, r3⟩, s0, s1, s2, s3⟩ := blk4r hkr
                    have hww : w.heap.size ≤ g11 + 1 := by have := Hg11.out; have := Hbe.out.size; have := Hb3.out.size; omega
                    have Hww := Lib.hid hww
                    clear hb hkr hoh hln hla hae ha hoh' hln' hends hQ hww
                    go_wp2_with (at_builtin; (refine app_row (e := 31) RtM.cells (fun _ => rfl) (by decide) (bytes := 48) (by decide) infoRt rfl Tryz.underlying25 onesRt (by rfl) _ _ (by rfl) w3.heap.size _ M (by rfl) ((HRz.out.row).alloc _) wr.heap.size ⟨2, k, cc, A9, c9, Q⟩ (by rfl) (by unfold RtM.cells; simp only; rw [Hln.out]; exact Blk.new _ _ _) (by have := HMl.out; omega) (by have := HbZ.out.size; simp; omega) ?_))
                    intro v7 w7 hown7 hg7 hor7
                    obtain ⟨A7, c7, hv7⟩ := hown7.shape
                    subst hv7
                    have hbA := below_new wr (.cells #[.int .i64 2, .int .i64 k, .int .i64 cc, .slice A9 n9 c9] 31)
                    have hR7 := (HRz.out.below hbA).app (x := ⟨2, k, cc, A9, c9, Q⟩) hg7 hown7 (by unfold RtM.nv; simp only; rw [Hln.out]; exact OwnR.lower (OwnR.below Hoh.out hbA) Hww.out)
                    have hb7 := (below_trans HbZ.out HbZ.out.size hbA).grown hg7 (below_trans HbZ.out HbZ.out.size hbA).size (fun m e => ((HRz.out.row.below hbA).block m e).1)
                    have HR7 := Lib.hid hR7
                    have Hb7 := Lib.hid hb7
                    clear hown7 hg7 hor7 hbA hR7 hb7 r0 r1 r2 r3 s0 s1 s2 s3
                    go_wp2
                    go_roundw
                    case measure => have := Hlt.out; simp [intOf]; omega
                    case rel => exact ⟨k + 1, _, c7, A7, M ++ [⟨2, k, cc, A9, c9, Q⟩], by go_num, Hlt.out, rfl, rfl, Hb7.out, HR7.out, by rw [List.map_append]; exact Hnx.out⟩
        · have hke : k = 4 := by omega
          have hkk : ¬ (k : Int) ≤ 3 := by omega
          rw [hke] at hTo
          have HTe := Lib.hid hTo.ends
          clear hMn hb hR hTo hlt hke hk
          go_wp2
          go_ret
          exact ⟨⟨_, rfl, M, ⟨OwnR.lower HR.out.row Hb3.out.size, HR.out.each⟩, _, HTr.out, HTe.out⟩, below_trans Hb3.out Hb3.out.size Hb.out⟩

end Go.Proofs.YtpfjgecdlilkcaaGreat

/-
  Layer 22: routes that are alike: the document's word.
-/
namespace Go.Proofs.YtpfjgecdlilkcaaGreat
open Go.RowKit

set_option maxHeartbeats 8000000 in
set_option maxRecDepth 100000 in
theorem refSame22 (A1 A2 : Option Addr) (c1 c2 n1 n2 : Nat) (N M : List RtM) (w : World) (h1 : RtsIn w w.heap.size A1 N) (h2 : RtsIn w w.heap.size A2 M) (hNM : N.map RtM.rt = M.map RtM.rt) (hl : N.length ≤ 2 ^ 20) (hn1 : n1 = N.length) (hn2 : n2 = M.length) :
    Calls Tryz.prog 11 #[.slice A1 n1 c1, .slice A2 n2 c2] w fun r w' => r = .returned (.bool true) ∧ Below w.heap.size w w' := by
  have hlen : N.length = M.length := by
    have := congrArg List.length hNM
    rwa [List.length_map, List.length_map] at this
  have hn12 : n2 = n1 := by omega
  subst hn12
  have H1 := Lib.hid h1
  have H2 := Lib.hid h2
  have HNM := Lib.hid hNM
  have Hn1 := Lib.hid hn1
  have Hn2 := Lib.hid hn2
  have hli : (n2 : Int) ≤ 1048576 := by omega
  have hne : ((n2 : Int) != (n2 : Int)) = false := by simp
  clear h1 h2 hl hNM hn1 hn2 hlen
  go_enter Tryz.func11, Tryz.ntmps11
  go_wp2
  go_loopw [5] (fun i wr => ∃ k : Nat, i = .int .i64 k ∧ k ≤ n2 ∧ Below w.heap.size w wr) (fun i _ => n2 - (intOf i).toNat)
  case atStart => exact ⟨0, rfl, Nat.zero_le _, Below.refl _ _⟩
  case round =>
    obtain ⟨k, rfl, hk, hb⟩ := hrel
    by_cases hlt : k < n2
    · have hki : (k : Int) < (n2 : Int) := by omega
      have hk1 : k < N.length := by have := Hn1.out; omega
      have hk2 : k < M.length := by have := Hn2.out; omega
      have r1 := (H1.out.below hb).more hb.size
      have r2 := (H2.out.below hb).more hb.size
      obtain ⟨g, o, hA, -, x0, x1, x2, x3⟩ := row_rt r1.rows k hk1
      obtain ⟨g', o', hA', -, y0, y1, y2, y3⟩ := row_rt r2.rows k hk2
      have hsame : N[k].rt = M[k].rt := by
        have := congrArg (fun l => l[k]?) HNM.out
        simp only [List.getElem?_map, List.getElem?_eq_getElem hk1, List.getElem?_eq_getElem hk2, Option.map_some, Option.some.injEq] at this
        exact this
      have e1 := r1.each _ (List.getElem_mem hk1)
      have e2 := r2.each _ (List.getElem_mem hk2)
      have el := r1.low _ (List.getElem_mem hk1)
      have HA := Lib.hid hA
      have HA' := Lib.hid hA'
      rw [hA, hA']
      generalize N[k] = x at *
      generalize M[k] = y at *
      obtain ⟨xk, xi, xa, xA, xc, xn⟩ := x
      obtain ⟨yk, yi, ya, yA, yc, yn⟩ := y
      unfold RtM.rt at hsame
      simp only [Rt.mk.injEq] at hsame
      obtain ⟨rfl, rfl, rfl, rfl⟩ := hsame
      simp only at x0 x1 x2 x3 y0 y1 y2 y3 e1 e2 el
      obtain ⟨nl, hnl⟩ : ∃ n, xn.length = n := ⟨_, rfl⟩
      rw [hnl] at x3 y3 el
      have HH := Lib.hid (fun q => refHops_eq xA yA xc yc nl xn (wr.drewN q) (e1.below (below_drewN (Below.refl _ _) q)) (e2.below (below_drewN (Below.refl _ _) q)) (by omega) hnl.symm)
      have Hlt := Lib.hid hlt
      have Hb := Lib.hid hb
      have hq0 : ((xk : Int) != (xk : Int)) = false := by simp
      have hq1 : ((xi : Int) != (xi : Int)) = false := by simp
      have hq2 : ((xa : Int) != (xa : Int)) = false := by simp
      clear hA hA' hlt hb hk hk1 hk2 r1 r2 e1 e2 el hnl
      go_wp2
      refine wp_drew_tail 48 (by kernel_rfl) (by kernel_rfl) ?_
      simp only [List.take_succ_cons, List.take_zero, List.drop_succ_cons, List.drop_zero]
      repeat (go_big_quiet_step (fail))
      refine wpQuiet_nil ?_
      rintro w7 ⟨dq, rfl⟩
      go_wp2_with (go_at_call 21; (with_reducible refine Calls.mono (HH.out _) ?_); rintro r w8 ⟨rfl, hb8⟩; have Hb8 := Lib.hid (below_trans (below_drewN Hb.out _) (below_drewN Hb.out _).size hb8); clear hb8)
      go_roundw
      case measure => have := Hlt.out; simp [intOf]; omega
      case rel => exact ⟨k + 1, by go_num, Hlt.out, Hb8.out⟩
    · have hke : k = n2 := by omega
      subst hke
      have hkk : ¬ (k : Int) < (k : Int) := by omega
      have Hb := Lib.hid hb
      clear hb hlt hk
      go_wp2
      go_ret
      exact ⟨rfl, Hb.out⟩

end Go.Proofs.YtpfjgecdlilkcaaGreat
