/-
  The law TableIs: its walk.
-/
import Derived.Test.YtpfjgecdlilkcaaGreatBaj
import Derived.Test.YtpfjgecdlilkcaaGreatBau
import Derived.Test.YtpfjgecdlilkcaaGreatBaw
namespace Go.Proofs.YtpfjgecdlilkcaaGreat
open Go.RowKit

set_option maxHeartbeats 16000000 in
set_option maxRecDepth 100000 in
theorem tableIs_any (self : Int) (A : Option Addr) (cap : Nat) (l : List Lsa) (w : World) (hl : LsasAt w w.heap.size A l) (hm : l.length ≤ maxLen) :
    Calls Tryz.prog 3 #[.int .i64 self, .slice A l.length cap] w fun r w' => r = .returned (.bool true) ∧ Below w.heap.size w w' := by
  have HL := Lib.hid hl
  obtain ⟨t, ht⟩ : ∃ t, manyB 25 l = t := ⟨_, rfl⟩
  have HMany := Lib.hid (fun W (hW : Below w.heap.size w W) => many22 A cap l W w.heap.size (hl.rows.below hW) hW.size hm l.length rfl ht)
  have Ht := Lib.hid ht
  clear hl hm ht
  go_enter Tryz.func3, Tryz.ntmps3
  go_wp2_with fail
  with_reducible refine Calls.mono (wakes22 _) ?_
  rintro r w1 ⟨rfl, hb1⟩
  have Hb1 := Lib.hid hb1
  clear hb1
  go_wp2_with fail
  with_reducible refine Calls.mono (HMany.out _ Hb1.out) ?_
  rintro r w2 ⟨rfl, hb2⟩
  have Hb2 := Lib.hid (below_trans Hb1.out Hb1.out.size hb2)
  clear hb2
  cases t with
  | true =>
    go_wp2
    go_ret
    exact ⟨rfl, Hb2.out⟩
  | false =>
    obtain ⟨hl40, hlens⟩ := manyB_lens Ht.out
    have hlen2 : ∀ x ∈ l, x.links.length ≤ 1000 ∧ x.members.length ≤ 1000 := fun x hx => by have := hlens x hx; omega
    have HIn := Lib.hid (fun W (hW : Below w.heap.size w W) => (show RowsAt 9 Lsa.cells W W.heap.size A l ∧ ∀ x ∈ l, RowsAt 4 Lnk.cells W W.heap.size x.ka x.links ∧ RowsAt 1 icell W W.heap.size x.ma x.members from ⟨(HL.out.rows.below hW).more hW.size, fun x hx => ⟨((HL.out.each x hx).links.below hW).more hW.size, ((HL.out.each x hx).members.below hW).more hW.size⟩⟩))
    obtain ⟨E, hE⟩ : ∃ E, edgesV (l.map vX) = E := ⟨_, rfl⟩
    obtain ⟨F, hF⟩ : ∃ F, leavesV (l.map vX) = F := ⟨_, rfl⟩
    obtain ⟨DD, hD⟩ := dists_are E
    have hEl : E.length ≤ 4000 := by rw [← hE]; have := edges_lenT (costC (countsV (l.map vX))); unfold edgesV; omega
    have HD := Lib.hid hD
    have HEl := Lib.hid hEl
    have HC := Lib.hid (fun W (hW : Below w.heap.size w W) => Routes_any self A cap l W (HIn.out W hW).1 (HIn.out W hW).2 hlen2 (by omega) l.length rfl E hE F hF DD hD)
    have HRf := Lib.hid (fun W (hW : Below w.heap.size w W) => refRoutes_any self A cap l W (HIn.out W hW).1 (HIn.out W hW).2 hlen2 (by omega) l.length rfl E hE F hF DD hD)
    clear hl40 hlens hlen2 hE hF hD hEl
    go_wp2_with fail
    with_reducible refine Calls.mono (HC.out _ Hb2.out) ?_
    rintro r w3 ⟨⟨v3, M, L, rfl, hM, hT, hA⟩, hb3⟩
    have hO := nodesOk HD.out HEl.out hT
    have hok := rts_ok hA hO (hO.low hT) (tree_few HD.out hT)
    obtain ⟨A3, c3, hv3⟩ := hM.row.shape
    subst hv3
    obtain ⟨nM, hnM⟩ : ∃ n, M.length = n := ⟨_, rfl⟩
    rw [hnM] at hM ⊢
    have HnM := Lib.hid hnM
    have HOk := Lib.hid hok
    have hnM2 : (nM : Int) ≤ 83 := by have := hok.len; omega
    have HM := Lib.hid (fun W (hW : Below w3.heap.size w3 W) => hM.reads hW hok.low)
    have HT := Lib.hid hT
    have HA := Lib.hid hA
    have Hb3 := Lib.hid (below_trans Hb2.out Hb2.out.size hb3)
    have hemp : self < 1 ∨ 15 < self → nM = 0 := fun h => by
      have hmay : mayV ⟨1, self⟩ = false := by
        cases e : mayV ⟨1, self⟩ with
        | false => rfl
        | true =>
          rcases mayV_iff.1 e with ⟨-, g1, g2⟩ | ⟨g, -⟩
          · simp only at g1 g2; omega
          · cases g
      have hn := hT.2 hmay
      subst hn
      have := routes_nil hA
      rw [List.map_eq_nil_iff] at this
      rw [← hnM, this]
      rfl
    have Hemp := Lib.hid hemp
    clear hO hok hnM hM hT hA hb3 hemp
    have HRfc := Lib.hid (HRf.out _ Hb3.out)
    have hpost : ∀ r w4, ((∃ v M L, r = Ending.returned v ∧ RtsAt w4 w3.heap.size v M ∧ TreeOf E DD ⟨1, self⟩ L ∧ RoutesAre self L F (M.map RtM.rt)) ∧ Below w3.heap.size w3 w4) → ∃ A4 c4 M', r = Ending.returned (.slice A4 nM c4) ∧ RtsIn w4 w4.heap.size A4 M' ∧ M'.length = nM ∧ M.map RtM.rt = M'.map RtM.rt ∧ Below w3.heap.size w3 w4 := by
      rintro r w4 ⟨⟨v4, M', L', rfl, hM', hT', hA'⟩, hb4⟩
      have hLL := treeOf_unique HD.out HT.out hT'
      subst hLL
      have hRR := routes_unique HA.out hA'
      have hO := nodesOk HD.out HEl.out hT'
      have hok := rts_ok hA' hO (hO.low hT') (tree_few HD.out hT')
      obtain ⟨A4, c4, hv4⟩ := hM'.row.shape
      subst hv4
      have hll : M'.length = nM := by have := congrArg List.length hRR; rw [List.length_map, List.length_map] at this; rw [← this]; exact HnM.out
      rw [hll] at hM' ⊢
      exact ⟨A4, c4, M', rfl, hM'.reads (Below.refl _ _) hok.low, hll, hRR, hb4⟩
    have Hpost := Lib.hid hpost
    clear hpost
    have hs1 : ∀ (s0 : Bool), True := fun _ => trivial
    clear hs1
    by_cases hlo : self < 1
    · have hn0 := Hemp.out (.inl hlo)
      subst hn0
      go_wp2_with fail
      with_reducible refine Calls.mono HRfc.out ?_
      intro r w4 hp4
      obtain ⟨A4, c4, M', rfl, hIn4, hll, hRR, hb4⟩ := Hpost.out r w4 hp4
      have HS := Lib.hid (refSame22 A3 A4 c3 c4 0 0 M M' w4 (HM.out w4 hb4) hIn4 hRR (by have := HOk.out.len; omega) HnM.out.symm hll.symm)
      have Hb4 := Lib.hid hb4
      clear hp4 hIn4 hll hRR hb4
      go_wp2_with fail
      with_reducible refine Calls.mono HS.out ?_
      rintro r w5 ⟨rfl, hb5⟩
      have Hb5 := Lib.hid (below_trans Hb4.out Hb4.out.size hb5)
      clear hb5 HS
      go_wp2_with fail
      go_loopw [40] (fun i wr => ∃ k : Nat, i = .int .i64 k ∧ k ≤ 0 ∧ Below w3.heap.size w3 wr) (fun i _ => 0 - (intOf i).toNat)
      case atStart => exact ⟨0, rfl, Nat.zero_le _, Hb5.out⟩
      case round =>
        obtain ⟨k, rfl, hk, hb⟩ := hrel
        by_cases hlt : k < 0
        · exact absurd hlt (Nat.not_lt_zero _)
        · have hke : k = 0 := by omega
          subst hke
          have HFi := Lib.hid (FindR_any 3 1 A3 c3 0 M wr (HM.out wr hb) (by have := HOk.out.len; omega) HnM.out.symm)
          have Hno := Lib.hid (findR_other HOk.out 1)
          have Hbe := Lib.hid hb
          have hkk2 : ¬ ((0 : Nat) : Int) < ((0 : Nat) : Int) := by omega
          clear hb hlt hk
          go_wp2_with fail
          with_reducible refine Calls.mono HFi.out ?_
          rintro r w7 ⟨hfo, hb7⟩
          rcases hfo with ⟨y, A14, c14, hx, -, -⟩ | ⟨-, rfl⟩
          · rw [Hno.out] at hx; cases hx
          have Hb7 := Lib.hid (below_trans Hb3.out Hb3.out.size (below_trans Hbe.out Hbe.out.size hb7))
          clear hb7
          go_wp2
          go_ret
          exact ⟨rfl, Hb7.out.alloc Hb7.out.size _⟩
    · by_cases hhi : 15 < self
      · have hn0 := Hemp.out (.inr hhi)
        subst hn0
        go_wp2_with fail
        with_reducible refine Calls.mono HRfc.out ?_
        intro r w4 hp4
        obtain ⟨A4, c4, M', rfl, hIn4, hll, hRR, hb4⟩ := Hpost.out r w4 hp4
        have HS := Lib.hid (refSame22 A3 A4 c3 c4 0 0 M M' w4 (HM.out w4 hb4) hIn4 hRR (by have := HOk.out.len; omega) HnM.out.symm hll.symm)
        have Hb4 := Lib.hid hb4
        clear hp4 hIn4 hll hRR hb4
        go_wp2_with fail
        with_reducible refine Calls.mono HS.out ?_
        rintro r w5 ⟨rfl, hb5⟩
        have Hb5 := Lib.hid (below_trans Hb4.out Hb4.out.size hb5)
        clear hb5 HS
        go_wp2_with fail
        go_loopw [40] (fun i wr => ∃ k : Nat, i = .int .i64 k ∧ k ≤ 0 ∧ Below w3.heap.size w3 wr) (fun i _ => 0 - (intOf i).toNat)
        case atStart => exact ⟨0, rfl, Nat.zero_le _, Hb5.out⟩
        case round =>
          obtain ⟨k, rfl, hk, hb⟩ := hrel
          by_cases hlt : k < 0
          · exact absurd hlt (Nat.not_lt_zero _)
          · have hke : k = 0 := by omega
            subst hke
            have HFi := Lib.hid (FindR_any 3 1 A3 c3 0 M wr (HM.out wr hb) (by have := HOk.out.len; omega) HnM.out.symm)
            have Hno := Lib.hid (findR_other HOk.out 1)
            have Hbe := Lib.hid hb
            have hkk2 : ¬ ((0 : Nat) : Int) < ((0 : Nat) : Int) := by omega
            clear hb hlt hk
            go_wp2_with fail
            with_reducible refine Calls.mono HFi.out ?_
            rintro r w7 ⟨hfo, hb7⟩
            rcases hfo with ⟨y, A14, c14, hx, -, -⟩ | ⟨-, rfl⟩
            · rw [Hno.out] at hx; cases hx
            have Hb7 := Lib.hid (below_trans Hb3.out Hb3.out.size (below_trans Hbe.out Hbe.out.size hb7))
            clear hb7
            go_wp2
            go_ret
            exact ⟨rfl, Hb7.out.alloc Hb7.out.size _⟩
      · go_wp2_with fail
        with_reducible refine Calls.mono HRfc.out ?_
        intro r w4 hp4
        obtain ⟨A4, c4, M', rfl, hIn4, hll, hRR, hb4⟩ := Hpost.out r w4 hp4
        have HS := Lib.hid (refSame22 A3 A4 c3 c4 nM nM M M' w4 (HM.out w4 hb4) hIn4 hRR (by have := HOk.out.len; omega) HnM.out.symm hll.symm)
        have Hb4 := Lib.hid hb4
        clear hp4 hIn4 hll hRR hb4
        go_wp2_with fail
        with_reducible refine Calls.mono HS.out ?_
        rintro r w5 ⟨rfl, hb5⟩
        have Hb5 := Lib.hid (below_trans Hb4.out Hb4.out.size hb5)
        clear hb5 HS
        go_wp2_with fail
        go_loopw [40] (fun i wr => ∃ k : Nat, i = .int .i64 k ∧ k ≤ nM ∧ Below w3.heap.size w3 wr) (fun i _ => nM - (intOf i).toNat)
        case atStart => exact ⟨0, rfl, Nat.zero_le _, Hb5.out⟩
        case round =>
          obtain ⟨k, rfl, hk, hb⟩ := hrel
          by_cases hlt : k < nM
          · have hki2 : (k : Int) < ((nM : Nat) : Int) := by omega
            have hkL : k < M.length := by rw [HnM.out]; exact hlt
            have hin : (M[k]'hkL) ∈ M := List.getElem_mem hkL
            obtain ⟨g, o, hA, -, x0, x1, x2, x3⟩ := row_rt (HM.out wr hb).rows k hkL
            have hfo := findR_own HOk.out hin
            have hlx := HOk.out.low _ hin
            have heach : ∀ W, Below w3.heap.size w3 W → RowsH W W.heap.size (M[k]'hkL).A (M[k]'hkL).next := fun W hW => (HM.out W hW).each _ hin
            subst hA
            generalize (M[k]'hkL) = x at *
            obtain ⟨vk, vi, va, xA, xc, xn⟩ := x
            simp only at x0 x1 x2 x3 hfo heach hlx
            have Hlx2 := Lib.hid hlx
            have Hfo := Lib.hid hfo
            have Heach := Lib.hid heach
            obtain ⟨nl, hnl⟩ : ∃ n, xn.length = n := ⟨_, rfl⟩
            rw [hnl] at x3
            have Hnl := Lib.hid hnl
            have hb6 := below_new wr (.cells #[.int .i64 vk, .int .i64 vi, .int .i64 va, .slice xA nl xc] 31)
            have hk6 := Blk.new wr 31 #[.int .i64 vk, .int .i64 vi, .int .i64 va, .slice xA nl xc]
            obtain ⟨w6, hw6⟩ : ∃ w6, wr.alloc (.cells #[.int .i64 vk, .int .i64 vi, .int .i64 va, .slice xA nl xc] 31) = w6 := ⟨_, rfl⟩
            obtain ⟨g6, hg6⟩ : ∃ g6, wr.heap.size = g6 := ⟨_, rfl⟩
            rw [hw6, hg6] at hk6
            rw [hw6] at hb6
            have Hb6 := Lib.hid (below_trans hb hb.size hb6)
            have Hk6 := Lib.hid hk6
            have Hlt := Lib.hid hlt
            have HFi := Lib.hid (FindR_any vk vi (some ⟨g, o, none⟩) c3 nM M w6 (HM.out w6 (below_trans hb hb.size hb6)) (by have := HOk.out.len; omega) HnM.out.symm)
            obtain ⟨⟨z0, z1, z2, z3⟩, -⟩ := blk4r hk6
            clear hb hb6 hk6 hnl hlt hkL hk hfo heach hin hlx
            go_wp2_with fail
            clear x0 x1 x2 x3 z0 z1 z2 z3 hw6 hg6
            with_reducible refine Calls.mono HFi.out ?_
            rintro r w7 ⟨hfo, hb7⟩
            rcases hfo with ⟨y, A14, c14, hx, rfl, ho⟩ | ⟨hx, -⟩
            rotate_left
            · rw [Hfo.out] at hx; cases hx
            rw [Hfo.out] at hx
            injection hx with hx
            subst hx
            simp only [RtM.rt] at ho ⊢
            rw [Hnl.out] at ho ⊢
            have Hb7 := Lib.hid (below_trans Hb6.out Hb6.out.size hb7)
            have Hk7 := Lib.hid (Hk6.out.below hb7 Hk6.out.lt)
            have Ho := Lib.hid (OwnR.rows (C := 2) (cells := Hp.cells) (fun _ => rfl) ho).2
            have hb8 := below_new w7 (.cells #[.int .i64 vk, .int .i64 vi, .int .i64 va, .slice A14 nl c14] 31)
            have hk8 := Blk.new w7 31 #[.int .i64 vk, .int .i64 vi, .int .i64 va, .slice A14 nl c14]
            obtain ⟨w8, hw8⟩ : ∃ v, w7.alloc (.cells #[.int .i64 vk, .int .i64 vi, .int .i64 va, .slice A14 nl c14] 31) = v := ⟨_, rfl⟩
            obtain ⟨g8, hg8⟩ : ∃ g, w7.heap.size = g := ⟨_, rfl⟩
            rw [hw8, hg8] at hk8
            rw [hw8] at hb8
            have hb9 := below_new w8 (.cells #[.int .i64 vk, .int .i64 vi, .int .i64 va, .slice A14 nl c14] 31)
            have hk9 := Blk.new w8 31 #[.int .i64 vk, .int .i64 vi, .int .i64 va, .slice A14 nl c14]
            obtain ⟨w9, hw9⟩ : ∃ v, w8.alloc (.cells #[.int .i64 vk, .int .i64 vi, .int .i64 va, .slice A14 nl c14] 31) = v := ⟨_, rfl⟩
            obtain ⟨g9, hg9⟩ : ∃ g, w8.heap.size = g := ⟨_, rfl⟩
            rw [hw9, hg9] at hk9
            rw [hw9] at hb9
            have hb10 := below_new w9 (.cells #[.int .i64 vk, .int .i64 vi, .int .i64 va, .slice xA nl xc] 31)
            have hk10 := Blk.new w9 31 #[.int .i64 vk, .int .i64 vi, .int .i64 va, .slice xA nl xc]
            obtain ⟨w10, hw10⟩ : ∃ v, w9.alloc (.cells #[.int .i64 vk, .int .i64 vi, .int .i64 va, .slice xA nl xc] 31) = v := ⟨_, rfl⟩
            obtain ⟨g10, hg10⟩ : ∃ g, w9.heap.size = g := ⟨_, rfl⟩
            rw [hw10, hg10] at hk10
            rw [hw10] at hb10
            have hb7a := below_trans hb8 hb8.size (below_trans hb9 hb9.size hb10)
            have Hb10 := Lib.hid (below_trans Hb7.out Hb7.out.size hb7a)
            have hx1 : Blk w10 g9 31 #[.int .i64 vk, .int .i64 vi, .int .i64 va, .slice A14 xn.length c14] := by rw [Hnl.out]; exact hk9.below hb10 hk9.lt
            have hx2 : Blk w10 g10 31 #[.int .i64 vk, .int .i64 vi, .int .i64 va, .slice xA xn.length xc] := by rw [Hnl.out]; exact hk10
            have HS := Lib.hid (refSame22 (some ⟨g9, 0, none⟩) (some ⟨g10, 0, none⟩) 1 1 1 1 [⟨vk, vi, va, A14, c14, xn⟩] [⟨vk, vi, va, xA, xc, xn⟩] w10
              (rts_one (x := ⟨vk, vi, va, A14, c14, xn⟩) hx1 ((Ho.out.below hb7a).more hb7a.size) Hlx2.out) (rts_one (x := ⟨vk, vi, va, xA, xc, xn⟩) hx2 (Heach.out w10 Hb10.out) Hlx2.out) rfl (by simp) rfl rfl)
            obtain ⟨⟨y0, y1, y2, y3⟩, -⟩ := blk4r hk8
            obtain ⟨⟨u0, u1, u2, u3⟩, -⟩ := blk4r (Hk7.out.below (below_trans hb8 hb8.size hb9) Hk7.out.lt)
            clear ho hb7 hb8 hk8 hb9 hk9 hb10 hk10 hb7a hx1 hx2
            go_wp2_with fail
            clear y0 y1 y2 y3 u0 u1 u2 u3 hw8 hw9 hw10 hg8 hg9 hg10
            with_reducible refine Calls.mono HS.out ?_
            rintro r w11 ⟨rfl, hb11⟩
            have Hb11 := Lib.hid (below_trans Hb10.out Hb10.out.size hb11)
            clear hb11
            go_wp2
            go_roundw
            case measure => have := Hlt.out; simp [intOf]; omega
            case rel => exact ⟨k + 1, by go_num, Hlt.out, Hb11.out⟩
          · have hke : k = nM := by omega
            subst hke
            have HFi := Lib.hid (FindR_any 3 1 A3 c3 k M wr (HM.out wr hb) (by have := HOk.out.len; omega) HnM.out.symm)
            have Hno := Lib.hid (findR_other HOk.out 1)
            have Hbe := Lib.hid hb
            have hkk2 : ¬ ((k : Nat) : Int) < ((k : Nat) : Int) := by omega
            clear hb hlt hk
            go_wp2_with fail
            with_reducible refine Calls.mono HFi.out ?_
            rintro r w7 ⟨hfo, hb7⟩
            rcases hfo with ⟨y, A14, c14, hx, -, -⟩ | ⟨-, rfl⟩
            · rw [Hno.out] at hx; cases hx
            have Hb7 := Lib.hid (below_trans Hb3.out Hb3.out.size (below_trans Hbe.out Hbe.out.size hb7))
            clear hb7
            go_wp2
            go_ret
            exact ⟨rfl, Hb7.out.alloc Hb7.out.size _⟩

end Go.Proofs.YtpfjgecdlilkcaaGreat
