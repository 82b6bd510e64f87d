/-
  The law TableWhole: its walk.
-/
import Derived.Test.YtpfjgecdlilkcaaGreatBaj
import Derived.Test.YtpfjgecdlilkcaaGreatBau
import Derived.Test.YtpfjgecdlilkcaaGreatTbLaws
namespace Go.Proofs.YtpfjgecdlilkcaaGreat
open Go.RowKit

theorem cmod15TableWhole (a : Nat) : Int.tmod (a : Int) 15 = ((a % 15 : Nat) : Int) := by
  rw [Int.tmod_eq_emod_of_nonneg (by omega)]
  exact_mod_cast rfl
set_option maxHeartbeats 16000000 in
set_option maxRecDepth 100000 in
theorem tableWhole_any (A : Option Addr) (cap : Nat) (l : List Lsa) (a : Nat) (ha : a ≤ 255) (w : World) (hl : LsasAt w w.heap.size A l) (hm : l.length ≤ maxLen) :
    Calls Tryz.prog 7 #[.slice A l.length cap, .int .u8 a] w fun r w' => r = .returned (.bool true) ∧ Below w.heap.size w w' := by
  have HL := Lib.hid hl
  obtain ⟨t, ht⟩ : ∃ t, manyB 25 l = t := ⟨_, rfl⟩
  have HMany := Lib.hid (fun W (hW : Below w.heap.size w W) => many22 A cap l W w.heap.size (hl.rows.below hW) hW.size hm l.length rfl ht)
  have Ht := Lib.hid ht
  have hai : (a : Int) ≤ 255 := by omega
  have hrem := cmod15TableWhole a
  obtain ⟨kk, hkk⟩ : ∃ kk, a % 15 = kk := ⟨_, rfl⟩
  have hkk15 : kk < 15 := by rw [← hkk]; omega
  rw [hkk] at hrem
  clear hl hm ht hkk ha
  go_enter Tryz.func7, Tryz.ntmps7
  go_wp2_with fail
  with_reducible refine Calls.mono (wakes22 _) ?_
  rintro r w1 ⟨rfl, hb1⟩
  have Hb1 := Lib.hid hb1
  clear hb1
  go_wp2_with fail
  with_reducible refine Calls.mono (HMany.out _ Hb1.out) ?_
  rintro r w2 ⟨rfl, hb2⟩
  have Hb2 := Lib.hid (below_trans Hb1.out Hb1.out.size hb2)
  clear hb2
  cases t with
  | true =>
    go_wp2
    go_ret
    exact ⟨rfl, Hb2.out⟩
  | false =>
    obtain ⟨hl40, hlens⟩ := manyB_lens Ht.out
    have hlen2 : ∀ x ∈ l, x.links.length ≤ 1000 ∧ x.members.length ≤ 1000 := fun x hx => by have := hlens x hx; omega
    have HIn := Lib.hid (fun W (hW : Below w.heap.size w W) => (show RowsAt 9 Lsa.cells W W.heap.size A l ∧ ∀ x ∈ l, RowsAt 4 Lnk.cells W W.heap.size x.ka x.links ∧ RowsAt 1 icell W W.heap.size x.ma x.members from ⟨(HL.out.rows.below hW).more hW.size, fun x hx => ⟨((HL.out.each x hx).links.below hW).more hW.size, ((HL.out.each x hx).members.below hW).more hW.size⟩⟩))
    obtain ⟨V, hV⟩ : ∃ V, l.map vX = V := ⟨_, rfl⟩
    obtain ⟨E, hE⟩ : ∃ E, edgesV V = E := ⟨_, rfl⟩
    obtain ⟨F, hF⟩ : ∃ F, leavesV V = F := ⟨_, rfl⟩
    obtain ⟨DD, hD⟩ := dists_are E
    have hEl : E.length ≤ 4000 := by rw [← hE]; have := edges_lenT (costC (countsV V)); unfold edgesV; omega
    have hS : SymE E := by rw [← hE]; exact edges_sym V
    have HD := Lib.hid hD
    have HEl := Lib.hid hEl
    have HS := Lib.hid hS
    have HC := Lib.hid (fun id W (hW : Below w.heap.size w W) => Routes_any id A cap l W (HIn.out W hW).1 (HIn.out W hW).2 hlen2 (by omega) l.length rfl E (by rw [hV, hE]) F (by rw [hV, hF]) DD hD)
    have hki : (kk : Int) < 15 := by omega
    obtain ⟨id, hidd⟩ : ∃ i : Int, (1 : Int) + (kk : Int) = i := ⟨_, rfl⟩
    have hm0 : mayV ⟨1, id⟩ = true := mayV_iff.2 (.inl ⟨rfl, by simp only; omega, by simp only; omega⟩)
    have Hm0 := Lib.hid hm0
    have HV := Lib.hid hV
    have HE := Lib.hid hE
    have HFv := Lib.hid hF
    clear hl40 hlens hlen2 hV hE hF hD hEl hS hm0
    go_wp2_with fail
    with_reducible refine Calls.mono (HC.out id _ Hb2.out) ?_
    rintro r w3 ⟨⟨v3, M, L, rfl, hM, hT, hA⟩, hb3⟩
    have hO := nodesOk HD.out HEl.out hT
    have hok := rts_ok hA hO (hO.low hT) (tree_few HD.out hT)
    obtain ⟨A3, c3, hv3⟩ := hM.row.shape
    subst hv3
    obtain ⟨nM, hnM⟩ : ∃ n, M.length = n := ⟨_, rfl⟩
    rw [hnM] at hM ⊢
    have HnM := Lib.hid hnM
    have HOk := Lib.hid hok
    have hnM2 : (nM : Int) ≤ 83 := by have := hok.len; omega
    have HM := Lib.hid (fun W (hW : Below w3.heap.size w3 W) => hM.reads hW hok.low)
    have HT := Lib.hid hT
    have HA := Lib.hid hA
    have Hb3 := Lib.hid (below_trans Hb2.out Hb2.out.size hb3)
    clear hO hok hnM hM hT hA hb3
    go_wp2_with fail
    clear hrem hkk15 hki hidd
    go_loopw [28] (fun i wr => ∃ k : Nat, i = .int .i64 k ∧ k ≤ nM ∧ Below w3.heap.size w3 wr) (fun i _ => nM - (intOf i).toNat)
    case atStart => exact ⟨0, rfl, Nat.zero_le _, Below.refl _ _⟩
    case round =>
      obtain ⟨k, rfl, hk, hb⟩ := hrel
      by_cases hlt : k < nM
      · have hki2 : (k : Int) < (nM : Int) := by omega
        have hkL : k < M.length := by rw [HnM.out]; exact hlt
        have hin : (M[k]'hkL) ∈ M := List.getElem_mem hkL
        obtain ⟨g, o, hA, -, x0, x1, x2, x3⟩ := row_rt (HM.out wr hb).rows k hkL
        have hmm : (M[k]'hkL).rt ∈ M.map RtM.rt := List.mem_map.2 ⟨_, hin, rfl⟩
        subst hA
        generalize (M[k]'hkL) = x at *
        obtain ⟨vk, vi, va, xA, xc, xn⟩ := x
        simp only [RtM.rt] at x0 x1 x2 x3 hmm
        obtain ⟨nl, hnl⟩ : ∃ n, xn.length = n := ⟨_, rfl⟩
        rw [hnl] at x3
        have Hmm := Lib.hid hmm
        have hb6 := below_new wr (.cells #[.int .i64 vk, .int .i64 vi, .int .i64 va, .slice xA nl xc] 31)
        have hk6 := Blk.new wr 31 #[.int .i64 vk, .int .i64 vi, .int .i64 va, .slice xA nl xc]
        obtain ⟨w6, hw6⟩ : ∃ w6, wr.alloc (.cells #[.int .i64 vk, .int .i64 vi, .int .i64 va, .slice xA nl xc] 31) = w6 := ⟨_, rfl⟩
        obtain ⟨g6, hg6⟩ : ∃ g6, wr.heap.size = g6 := ⟨_, rfl⟩
        rw [hw6, hg6] at hk6
        rw [hw6] at hb6
        have Hb6 := Lib.hid (below_trans hb hb.size hb6)
        have Hk6 := Lib.hid hk6
        have Hlt := Lib.hid hlt
        obtain ⟨⟨z0, z1, z2, z3⟩, -⟩ := blk4r hk6
        clear hb hb6 hk6 hnl hlt hkL hk hin hmm
        by_cases hkd : vk = 1
        · have e1 : (vk != 1) = false := by simp [hkd]
          have Hkd := Lib.hid hkd
          clear hkd
          go_wp2_with fail
          with_reducible refine Calls.mono (HC.out vi _ (below_trans Hb3.out Hb3.out.size Hb6.out)) ?_
          clear x0 x1 x2 x3 z0 z1 z2 z3 hw6 hg6
          rintro r w7 ⟨⟨v7, M', L', rfl, hM', hT', hA'⟩, hb7⟩
          have hO := nodesOk HD.out HEl.out hT'
          have hok := rts_ok hA' hO (hO.low hT') (tree_few HD.out hT')
          obtain ⟨A7, c7, hv7⟩ := hM'.row.shape
          subst hv7
          obtain ⟨nM', hnM'⟩ : ∃ n, M'.length = n := ⟨_, rfl⟩
          rw [hnM'] at hM' ⊢
          have HnM' := Lib.hid hnM'
          have HOk' := Lib.hid hok
          have HM' := Lib.hid (fun W (hW : Below w7.heap.size w7 W) => hM'.reads hW hok.low)
          have HT' := Lib.hid hT'
          have HA' := Lib.hid hA'
          have Hb7 := Lib.hid (below_trans Hb6.out Hb6.out.size hb7)
          have Hk7 := Lib.hid (Hk6.out.below hb7 Hk6.out.lt)
          clear hO hok hnM' hM' hT' hA' hb7
          have hwh := fun (lan : Int) h0 h3 => whole_same (lan := lan) HD.out HS.out Hm0.out (HT.out.1 Hm0.out) HA.out Hmm.out Hkd.out HT'.out HA'.out h0 h3
          have Hwh := Lib.hid hwh
          obtain ⟨wo, hwo⟩ : ∃ x : World, x = wr := ⟨_, rfl⟩
          clear hwh hwo
          go_wp2_with fail
          go_loopw [39] (fun i wr => ∃ j : Nat, i = .int .i64 j ∧ j ≤ 4 ∧ Below w7.heap.size w7 wr) (fun i _ => 4 - (intOf i).toNat)
          case atStart => exact ⟨0, rfl, Nat.zero_le _, Below.refl _ _⟩
          case round =>
            obtain ⟨j, rfl, hj, hb⟩ := hrel
            by_cases hlj : j < 4
            · have hji : (j : Int) < 4 := by omega
              have Hlj := Lib.hid hlj
              have Hbj := Lib.hid hb
              have hbo := below_trans Hb7.out Hb7.out.size hb
              have HF1 := Lib.hid (FindR_any 2 j (some ⟨g, o, none⟩) c3 nM M wr (HM.out wr hbo) (by have := HOk.out.len; omega) HnM.out.symm)
              have HF2 := Lib.hid (fun W (hW : Below w7.heap.size w7 W) => FindR_any 2 j A7 c7 nM' M' W (HM'.out W hW) (by have := HOk'.out.len; omega) HnM'.out.symm)
              clear hj hb hlj hbo
              go_wp2_with fail
              with_reducible refine Calls.mono HF1.out ?_
              rintro r w8 ⟨hf1, hb8⟩
              have Hb8 := Lib.hid (below_trans Hbj.out Hbj.out.size hb8)
              have Hb9 := Lib.hid (fun o => below_trans Hb8.out Hb8.out.size (below_new w8 o))
              have Hiff := Lib.hid (Hwh.out j (by omega) (by have := Hlj.out; omega))
              clear hb8
              rcases hf1 with ⟨y, A14, c14, hx, rfl, -⟩ | ⟨hx, rfl⟩
              · have Hx1 := Lib.hid ((findR_iff HOk.out).1 hx)
                clear hx
                go_wp2_with fail
                with_reducible refine Calls.mono (HF2.out _ (Hb9.out _)) ?_
                rintro r wA ⟨hf2, hbA⟩
                rcases hf2 with ⟨y2, A15, c15, hx2, rfl, -⟩ | ⟨hx2, -⟩
                rotate_left
                · obtain ⟨y2, g1, g2, g3⟩ := Hiff.out.1 ⟨y, Hx1.out⟩
                  rw [(findR_iff HOk'.out).2 ⟨g1, g2, g3⟩] at hx2
                  cases hx2
                clear hx2
                go_wp2
                go_roundw
                case measure => have := Hlj.out; simp [intOf]; omega
                case rel => exact ⟨j + 1, by go_num, Hlj.out, (below_trans (Hb9.out _) (Hb9.out _).size hbA).alloc (below_trans (Hb9.out _) (Hb9.out _).size hbA).size _⟩
              · have Hx1 := Lib.hid hx
                clear hx
                go_wp2_with fail
                with_reducible refine Calls.mono (HF2.out _ (Hb9.out _)) ?_
                rintro r wA ⟨hf2, hbA⟩
                rcases hf2 with ⟨y2, A15, c15, hx2, -, -⟩ | ⟨hx2, rfl⟩
                · obtain ⟨y, g1, g2, g3⟩ := Hiff.out.2 ⟨y2, (findR_iff HOk'.out).1 hx2⟩
                  have := (findR_iff HOk.out).2 ⟨g1, g2, g3⟩
                  rw [Hx1.out] at this
                  cases this
                clear hx2
                go_wp2
                go_roundw
                case measure => have := Hlj.out; simp [intOf]; omega
                case rel => exact ⟨j + 1, by go_num, Hlj.out, (below_trans (Hb9.out _) (Hb9.out _).size hbA).alloc (below_trans (Hb9.out _) (Hb9.out _).size hbA).size _⟩
            · have hje : j = 4 := by omega
              have hjj : ¬ (j : Int) < 4 := by omega
              have Hb := Lib.hid hb
              clear hb hj hlj hje
              go_wp2
              go_roundw
              case measure => have := Hlt.out; simp [intOf]; omega
              case rel => exact ⟨k + 1, by go_num, Hlt.out, below_trans Hb7.out Hb7.out.size Hb.out⟩
        · have e1 : (vk != 1) = true := by simp [hkd]
          clear hkd
          go_wp2
          go_roundw
          case measure => have := Hlt.out; simp [intOf]; omega
          case rel => exact ⟨k + 1, by go_num, Hlt.out, Hb6.out⟩
      · have hke : k = nM := by omega
        have hkk2 : ¬ (k : Int) < (nM : Int) := by omega
        have Hb := Lib.hid hb
        clear hb hlt hk hke
        go_wp2
        go_ret
        exact ⟨rfl, below_trans Hb3.out Hb3.out.size Hb.out⟩

end Go.Proofs.YtpfjgecdlilkcaaGreat
