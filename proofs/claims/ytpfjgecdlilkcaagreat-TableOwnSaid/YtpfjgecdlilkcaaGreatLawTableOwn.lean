/-
  The law TableOwn: its walk.
-/
import Derived.Test.YtpfjgecdlilkcaaGreatBaj
import Derived.Test.YtpfjgecdlilkcaaGreatBas
import Derived.Test.YtpfjgecdlilkcaaGreatBau
import Derived.Test.YtpfjgecdlilkcaaGreatTbLaws
namespace Go.Proofs.YtpfjgecdlilkcaaGreat
open Go.RowKit

theorem cmod15TableOwn (a : Nat) : Int.tmod (a : Int) 15 = ((a % 15 : Nat) : Int) := by
  rw [Int.tmod_eq_emod_of_nonneg (by omega)]
  exact_mod_cast rfl
set_option maxHeartbeats 16000000 in
set_option maxRecDepth 100000 in
theorem tableOwn_any (A : Option Addr) (cap : Nat) (l : List Lsa) (a : Nat) (ha : a ≤ 255) (w : World) (hl : LsasAt w w.heap.size A l) (hm : l.length ≤ maxLen) :
    Calls Tryz.prog 4 #[.slice A l.length cap, .int .u8 a] w fun r w' => r = .returned (.bool true) ∧ Below w.heap.size w w' := by
  have HL := Lib.hid hl
  obtain ⟨t, ht⟩ : ∃ t, manyB 25 l = t := ⟨_, rfl⟩
  have HMany := Lib.hid (fun W (hW : Below w.heap.size w W) => many22 A cap l W w.heap.size (hl.rows.below hW) hW.size hm l.length rfl ht)
  have Ht := Lib.hid ht
  have hai : (a : Int) ≤ 255 := by omega
  have hrem := cmod15TableOwn a
  obtain ⟨kk, hkk⟩ : ∃ kk, a % 15 = kk := ⟨_, rfl⟩
  have hkk15 : kk < 15 := by rw [← hkk]; omega
  rw [hkk] at hrem
  clear hl hm ht hkk ha
  go_enter Tryz.func4, Tryz.ntmps4
  go_wp2_with fail
  with_reducible refine Calls.mono (wakes22 _) ?_
  rintro r w1 ⟨rfl, hb1⟩
  have Hb1 := Lib.hid hb1
  clear hb1
  go_wp2_with fail
  with_reducible refine Calls.mono (HMany.out _ Hb1.out) ?_
  rintro r w2 ⟨rfl, hb2⟩
  have Hb2 := Lib.hid (below_trans Hb1.out Hb1.out.size hb2)
  clear hb2
  cases t with
  | true =>
    go_wp2
    go_ret
    exact ⟨rfl, Hb2.out⟩
  | false =>
    obtain ⟨hl40, hlens⟩ := manyB_lens Ht.out
    have hlen2 : ∀ x ∈ l, x.links.length ≤ 1000 ∧ x.members.length ≤ 1000 := fun x hx => by have := hlens x hx; omega
    have HIn := Lib.hid (fun W (hW : Below w.heap.size w W) => (show RowsAt 9 Lsa.cells W W.heap.size A l ∧ ∀ x ∈ l, RowsAt 4 Lnk.cells W W.heap.size x.ka x.links ∧ RowsAt 1 icell W W.heap.size x.ma x.members from ⟨(HL.out.rows.below hW).more hW.size, fun x hx => ⟨((HL.out.each x hx).links.below hW).more hW.size, ((HL.out.each x hx).members.below hW).more hW.size⟩⟩))
    obtain ⟨V, hV⟩ : ∃ V, l.map vX = V := ⟨_, rfl⟩
    obtain ⟨E, hE⟩ : ∃ E, edgesV V = E := ⟨_, rfl⟩
    obtain ⟨F, hF⟩ : ∃ F, leavesV V = F := ⟨_, rfl⟩
    obtain ⟨DD, hD⟩ := dists_are E
    have hEl : E.length ≤ 4000 := by rw [← hE]; have := edges_lenT (costC (countsV V)); unfold edgesV; omega
    have hS : SymE E := by rw [← hE]; exact edges_sym V
    have HD := Lib.hid hD
    have HEl := Lib.hid hEl
    have HS := Lib.hid hS
    have HC := Lib.hid (fun id W (hW : Below w.heap.size w W) => Routes_any id A cap l W (HIn.out W hW).1 (HIn.out W hW).2 hlen2 (by omega) l.length rfl E (by rw [hV, hE]) F (by rw [hV, hF]) DD hD)
    have hki : (kk : Int) < 15 := by omega
    obtain ⟨id, hidd⟩ : ∃ i : Int, (1 : Int) + (kk : Int) = i := ⟨_, rfl⟩
    have hm0 : mayV ⟨1, id⟩ = true := mayV_iff.2 (.inl ⟨rfl, by simp only; omega, by simp only; omega⟩)
    have Hm0 := Lib.hid hm0
    have HV := Lib.hid hV
    have HE := Lib.hid hE
    have HFv := Lib.hid hF
    have HCt := Lib.hid (fun W (hW : Below w.heap.size w W) => refCounts_any A cap l W (HIn.out W hW).1 (HIn.out W hW).2 hlen2 (by omega) l.length rfl)
    have HLf := Lib.hid (fun W (hW : Below w.heap.size w W) => Leaves_any A cap l W (HIn.out W hW).1 (HIn.out W hW).2 hlen2 (by omega) l.length rfl)
    rw [hV] at HCt HLf
    rw [hF] at HLf
    have hFok : LeavesOk F := by rw [← hF]; exact leavesOk V
    have HFok := Lib.hid hFok
    have hFl : F.length ≤ 100 := by rw [← hF]; exact leaves_lenT _
    have HFl := Lib.hid hFl
    have hCl : (countsV V).length ≤ 25 := Nat.le_trans (countsV_len V) (by rw [← hV, List.length_map]; exact hl40)
    have HCl := Lib.hid hCl
    clear hFok hFl hCl
    clear hl40 hlens hlen2 hV hE hF hD hEl hS hm0
    go_wp2_with fail
    with_reducible refine Calls.mono (HCt.out _ Hb2.out) ?_
    clear hrem hkk15 hki hidd
    rintro r w3 ⟨⟨v3, rfl, O, hO, hOv⟩, hb3⟩
    obtain ⟨A3, c3, hv3⟩ := hO.own.shape
    subst hv3
    obtain ⟨nO, hnO⟩ : ∃ n, O.length = n := ⟨_, rfl⟩
    rw [hnO] at hO ⊢
    have hnOi : (nO : Int) ≤ 25 := by have := HCl.out; rw [← hOv, List.length_map] at this; omega
    have HnO := Lib.hid hnO
    have HOv := Lib.hid hOv
    have HOw := Lib.hid hO.own
    have Hb3 := Lib.hid (below_trans Hb2.out Hb2.out.size hb3)
    clear hO hOv hnO hb3
    go_wp2_with fail
    go_loopw [6, 25] (fun b i wr => ∃ k : Nat, i = .int .i64 k ∧ k ≤ nO ∧ b = .bool (toldB ((O.take k).map vX) id) ∧ Below w3.heap.size w3 wr) (fun _ i _ => nO - (intOf i).toNat)
    case atStart => exact ⟨0, rfl, Nat.zero_le _, rfl, Below.refl _ _⟩
    case round =>
      obtain ⟨k, rfl, hk, rfl, hb⟩ := hrel
      by_cases hlt : k < nO
      · have hki2 : (k : Int) < (nO : Int) := by omega
        have hkL : k < O.length := by rw [HnO.out]; exact hlt
        obtain ⟨g, o, hA, -, x0, x1, x2, x3, x4, x5, x6, x7, x8⟩ := row_lsa9 (OwnR.rows (C := 9) (cells := Lsa.cells) (fun _ => rfl) (HOw.out.below hb)).2 k hkL
        have htk : toldB ((O.take (k + 1)).map vX) id = (toldB ((O.take k).map vX) id || (decide ((O[k]'hkL).head.kind = 1) && decide ((O[k]'hkL).head.adv = id))) := by
          rw [List.take_succ_eq_append_getElem hkL, List.map_append]
          unfold toldB
          rw [List.any_append]
          simp [vX]
        subst hA
        generalize (O[k]'hkL) = x at *
        obtain ⟨⟨y1, y2, y3, y4, y5, y6, y7⟩, ka, kc, ls, ma, mc, ms⟩ := x
        simp only at x0 x1 x2 x3 x4 x5 x6 x7 x8 htk
        obtain ⟨nl, hnl⟩ : ∃ n, ls.length = n := ⟨_, rfl⟩
        obtain ⟨nm, hnm⟩ : ∃ n, ms.length = n := ⟨_, rfl⟩
        rw [hnl] at x7
        rw [hnm] at x8
        have Htk := Lib.hid htk
        have Hlt := Lib.hid hlt
        have Hb := Lib.hid (fun o => below_trans hb hb.size (below_new wr o))
        obtain ⟨b, hbb⟩ : ∃ b, toldB ((O.take k).map vX) id = b := ⟨_, rfl⟩
        rw [hbb]
        have Hbb := Lib.hid hbb
        clear hb hlt hkL htk hnl hnm hk hbb
        cases b with
        | true =>
          go_wp2
          go_roundw
          case measure => have := Hlt.out; simp [intOf]; omega
          case rel => exact ⟨k + 1, by go_num, Hlt.out, by rw [Htk.out, Hbb.out]; rfl, Hb.out _⟩
        | false =>
          by_cases h1 : y2 = 1
          · have e1 : (y2 == 1) = true := by simp [h1]
            by_cases h2 : y4 = id
            · have e2 : (y4 == id) = true := by simp [h2]
              have Hn := Lib.hid (show (false || (decide (y2 = 1) && decide (y4 = id))) = true by simp [h1, h2])
              clear h1 h2
              go_wp2
              go_roundw
              case measure => have := Hlt.out; simp [intOf]; omega
              case rel => exact ⟨k + 1, by go_num, Hlt.out, by rw [Htk.out, Hbb.out, Hn.out], Hb.out _⟩
            · have e2 : (y4 == id) = false := by simp [h2]
              have Hn := Lib.hid (show (false || (decide (y2 = 1) && decide (y4 = id))) = false by simp [h2])
              clear h1 h2
              go_wp2
              go_roundw
              case measure => have := Hlt.out; simp [intOf]; omega
              case rel => exact ⟨k + 1, by go_num, Hlt.out, by rw [Htk.out, Hbb.out, Hn.out], Hb.out _⟩
          · have e1 : (y2 == 1) = false := by simp [h1]
            have Hn := Lib.hid (show (false || (decide (y2 = 1) && decide (y4 = id))) = false by simp [h1])
            clear h1
            go_wp2
            go_roundw
            case measure => have := Hlt.out; simp [intOf]; omega
            case rel => exact ⟨k + 1, by go_num, Hlt.out, by rw [Htk.out, Hbb.out, Hn.out], Hb.out _⟩
      · have hke : k = nO := by omega
        have hkk2 : ¬ (k : Int) < (nO : Int) := by omega
        have hall : toldB ((O.take k).map vX) id = toldB (countsV V) id := by rw [hke, ← HnO.out, List.take_length, HOv.out]
        rw [hall]
        obtain ⟨told, htold⟩ : ∃ b, toldB (countsV V) id = b := ⟨_, rfl⟩
        rw [htold]
        have Htold := Lib.hid htold
        have Hb4 := Lib.hid (below_trans Hb3.out Hb3.out.size hb)
        obtain ⟨wL, hwL⟩ : ∃ x : World, x = wr := ⟨_, rfl⟩
        rw [← hwL] at Hb4
        subst hwL
        clear hb hlt hk hke hall htold
        go_wp2_with fail
        with_reducible refine Calls.mono (HC.out id _ Hb4.out) ?_
        rintro r w5 ⟨⟨v5, M, L, rfl, hM, hT, hA⟩, hb5⟩
        have hO := nodesOk HD.out HEl.out hT
        have hok := rts_ok hA hO (hO.low hT) (tree_few HD.out hT)
        obtain ⟨A5, c5, hv5⟩ := hM.row.shape
        subst hv5
        obtain ⟨nM, hnM⟩ : ∃ n, M.length = n := ⟨_, rfl⟩
        rw [hnM] at hM ⊢
        have HnM := Lib.hid hnM
        have HOk := Lib.hid hok
        have hnM2 : (nM : Int) ≤ 83 := by have := hok.len; omega
        have HM := Lib.hid (fun W (hW : Below w5.heap.size w5 W) => hM.reads hW hok.low)
        have HT := Lib.hid hT
        have HA := Lib.hid hA
        have Hb5 := Lib.hid (below_trans Hb4.out Hb4.out.size hb5)
        clear hO hok hnM hM hT hA hb5
        cases told with
        | false =>
          have hn0 : nM = 0 := by
            have hR : M.map RtM.rt = [] := untold_nil (l := V) (by rw [HE.out]; exact HD.out) (by rw [HE.out]; exact HT.out) (by rw [HFv.out]; exact HA.out) Htold.out
            rw [List.map_eq_nil_iff] at hR
            rw [← HnM.out, hR]
            rfl
          subst hn0
          go_wp2
          go_ret
          exact ⟨rfl, Hb5.out⟩
        | true =>
          go_wp2_with fail
          with_reducible refine Calls.mono (HLf.out _ Hb5.out) ?_
          rintro r w6 ⟨⟨v6, rfl, hx6⟩, hb6⟩
          obtain ⟨A6, c6, hv6⟩ := hx6.shape
          subst hv6
          obtain ⟨nF, hnF⟩ : ∃ n, F.length = n := ⟨_, rfl⟩
          rw [hnF] at hx6 ⊢
          have HnF := Lib.hid hnF
          have hnFi : (nF : Int) ≤ 100 := by have := HFl.out; omega
          have HX6 := Lib.hid hx6
          have Hb6 := Lib.hid hb6
          have Hb6w := Lib.hid (below_trans Hb5.out Hb5.out.size hb6)
          clear hx6 hb6 hnF
          go_wp2_with fail
          go_loopw [55] (fun i wr => ∃ k : Nat, i = .int .i64 k ∧ k ≤ nF ∧ Below w6.heap.size w6 wr) (fun i _ => nF - (intOf i).toNat)
          case atStart => exact ⟨0, rfl, Nat.zero_le _, Below.refl _ _⟩
          case round =>
            obtain ⟨k2, rfl, hk, hb⟩ := hrel
            by_cases hlt : k2 < nF
            · have hki2 : (k2 : Int) < (nF : Int) := by omega
              have hkF : k2 < F.length := by rw [HnF.out]; exact hlt
              obtain ⟨g, o, hA, -, x0, x1, x2⟩ := row_lf (OwnR.rows (C := 3) (cells := Lf.cells) (fun _ => rfl) (HX6.out.below hb)).2 k2 hkF
              have hin : (F[k2]'hkF) ∈ F := List.getElem_mem hkF
              subst hA
              generalize (F[k2]'hkF) = f at *
              obtain ⟨fr, fl, fc⟩ := f
              simp only at x0 x1 x2
              have Hin := Lib.hid hin
              have hb7 := below_new wr (.cells #[.int .i64 fr, .int .i64 fl, .int .i64 fc] 45)
              have hk7 := Blk.new wr 45 #[.int .i64 fr, .int .i64 fl, .int .i64 fc]
              obtain ⟨w7, hw7⟩ : ∃ v, wr.alloc (.cells #[.int .i64 fr, .int .i64 fl, .int .i64 fc] 45) = v := ⟨_, rfl⟩
              obtain ⟨g7, hg7⟩ : ∃ v, wr.heap.size = v := ⟨_, rfl⟩
              rw [hw7, hg7] at hk7
              rw [hw7] at hb7
              have Hb7 := Lib.hid (below_trans hb hb.size hb7)
              have Hk7 := Lib.hid hk7
              have Hlt := Lib.hid hlt
              obtain ⟨l0, l1, l2⟩ : _ ∧ _ ∧ _ := ⟨hk7.cell 0, hk7.cell 1, hk7.cell 2⟩
              simp only [List.getElem?_toArray, List.getElem?_cons_zero, List.getElem?_cons_succ] at l0 l1 l2
              clear hb hlt hk hkF hin hb7 hk7
              by_cases hr : fr = id
              · have e1 : (fr != id) = false := by simp [hr]
                have how := own_leaf HD.out (HT.out.1 Hm0.out) HA.out HFok.out Hin.out hr
                obtain ⟨y, hy, hyk, hyi, hyc⟩ := how
                simp only at hyi hyc
                have Hfd := Lib.hid ((findR_iff HOk.out (k := 2) (i := fl)).2 ⟨hy, hyk, hyi⟩)
                have Hyc := Lib.hid hyc
                have HFi := Lib.hid (FindR_any 2 fl A5 c5 nM M w7 (HM.out w7 (below_trans Hb6.out Hb6.out.size Hb7.out)) (by have := HOk.out.len; omega) HnM.out.symm)
                clear hr hy hyk hyi hyc
                go_wp2_with fail
                with_reducible refine Calls.mono HFi.out ?_
                clear x0 x1 x2 l0 l1 l2 hw7 hg7
                rintro r w8 ⟨hfo, hb8⟩
                rcases hfo with ⟨z, A14, c14, hx, rfl, -⟩ | ⟨hx, -⟩
                rotate_left
                · rw [Hfd.out] at hx; cases hx
                rw [Hfd.out] at hx
                injection hx with hx
                subst hx
                have Hb8 := Lib.hid (below_trans Hb7.out Hb7.out.size hb8)
                have hb9 := below_new w8 (.cells #[.int .i64 y.kind, .int .i64 y.id, .int .i64 y.cost, .slice A14 y.next.length c14] 31)
                have hk9 := Blk.new w8 31 #[.int .i64 y.kind, .int .i64 y.id, .int .i64 y.cost, .slice A14 y.next.length c14]
                have hk79 := (Hk7.out.below hb8 Hk7.out.lt).below hb9 (Hk7.out.below hb8 Hk7.out.lt).lt
                obtain ⟨w9, hw9⟩ : ∃ v, w8.alloc (.cells #[.int .i64 y.kind, .int .i64 y.id, .int .i64 y.cost, .slice A14 y.next.length c14] 31) = v := ⟨_, rfl⟩
                obtain ⟨g9, hg9⟩ : ∃ v, w8.heap.size = v := ⟨_, rfl⟩
                rw [hw9, hg9] at hk9
                rw [hw9] at hb9 hk79
                obtain ⟨⟨z0, z1, z2, z3⟩, -⟩ := blk4r hk9
                obtain ⟨l0, l1, l2⟩ : _ ∧ _ ∧ _ := ⟨hk79.cell 0, hk79.cell 1, hk79.cell 2⟩
                simp only [List.getElem?_toArray, List.getElem?_cons_zero, List.getElem?_cons_succ] at l0 l1 l2
                have Hb9 := Lib.hid (below_trans Hb8.out Hb8.out.size hb9)
                have hnc : ¬ fc < (y.cost : Int) := by have := Hyc.out; omega
                clear hb8 hb9 hk9 hk79
                go_wp2
                go_roundw
                case measure => have := Hlt.out; simp [intOf]; omega
                case rel => exact ⟨k2 + 1, by go_num, Hlt.out, Hb9.out⟩
              · have e1 : (fr != id) = true := by simp [hr]
                clear hr
                go_wp2
                go_roundw
                case measure => have := Hlt.out; simp [intOf]; omega
                case rel => exact ⟨k2 + 1, by go_num, Hlt.out, Hb7.out⟩
            · have hke : k2 = nF := by omega
              have hkk3 : ¬ (k2 : Int) < (nF : Int) := by omega
              have Hb := Lib.hid hb
              clear hb hlt hk hke
              go_wp2
              go_ret
              exact ⟨rfl, below_trans Hb6w.out Hb6w.out.size Hb.out⟩

end Go.Proofs.YtpfjgecdlilkcaaGreat
