/-
  The law SpfLsas: its walk.
-/
import Derived.Test.YtpfjgecdlilkcaaBaj
import Derived.Test.YtpfjgecdlilkcaaBaq
import Derived.Test.YtpfjgecdlilkcaaBar
namespace Go.Proofs.Ytpfjgecdlilkcaa
open Go.RowKit

theorem cmod15r (a : Nat) : Int.tmod (a : Int) 15 = ((a % 15 : Nat) : Int) := by
  rw [Int.tmod_eq_emod_of_nonneg (by omega)]
  exact_mod_cast rfl
theorem edges_len (f : Int → Int → Option Int) : (edgesC f).length ≤ 2000 := by
  rw [edges_pre, List.length_append]
  have h1 := preA_len f 15
  have h2 := preB_len f 64
  omega
set_option maxHeartbeats 16000000 in
set_option maxRecDepth 100000 in
theorem spfLsas_any (a : Nat) (ha : a ≤ 255) (A : Option Addr) (cap : Nat) (l : List Lsa) (w : World) (hl : LsasAt w w.heap.size A l) (hm : l.length ≤ maxLen) :
    Calls Try.prog 11 #[.int .u8 a, .slice A l.length cap] w fun r w' => r = .returned (.bool true) ∧ Below w.heap.size w w' := by
  have HL := Lib.hid hl
  obtain ⟨t, ht⟩ : ∃ t, manyB 25 l = t := ⟨_, rfl⟩
  have HMany := Lib.hid (fun W (hW : Below w.heap.size w W) => many21 A cap l W w.heap.size (hl.rows.below hW) hW.size hm l.length rfl ht)
  have Ht := Lib.hid ht
  have hai : (a : Int) ≤ 255 := by omega
  have hrem := cmod15r a
  obtain ⟨kk, hkk⟩ : ∃ kk, a % 15 = kk := ⟨_, rfl⟩
  have hkk15 : kk < 15 := by rw [← hkk]; omega
  rw [hkk] at hrem
  clear hl hm ht hkk ha
  go_enter Try.func11, Try.ntmps11
  go_wp2_with fail
  with_reducible refine Calls.mono (wakes21 _) ?_
  rintro r w1 ⟨rfl, hb1⟩
  have Hb1 := Lib.hid hb1
  clear hb1
  go_wp2_with fail
  with_reducible refine Calls.mono (HMany.out _ Hb1.out) ?_
  rintro r w2 ⟨rfl, hb2⟩
  have Hb2 := Lib.hid (below_trans Hb1.out Hb1.out.size hb2)
  clear hb2
  cases t with
  | true =>
    go_wp2
    go_ret
    exact ⟨rfl, Hb2.out⟩
  | false =>
    obtain ⟨hl40, hlens⟩ := manyB_lens Ht.out
    have hlen2 : ∀ x ∈ l, x.links.length ≤ 1000 ∧ x.members.length ≤ 1000 := fun x hx => by have := hlens x hx; omega
    have HIn := Lib.hid (fun W (hW : Below w.heap.size w W) => (show RowsAt 9 Lsa.cells W W.heap.size A l ∧ ∀ x ∈ l, RowsAt 4 Lnk.cells W W.heap.size x.ka x.links ∧ RowsAt 1 icell W W.heap.size x.ma x.members from ⟨(HL.out.rows.below hW).more hW.size, fun x hx => ⟨((HL.out.each x hx).links.below hW).more hW.size, ((HL.out.each x hx).members.below hW).more hW.size⟩⟩))
    have HC := Lib.hid (fun W (hW : Below w.heap.size w W) => Edges_any A cap l W (HIn.out W hW).1 (HIn.out W hW).2 hlen2 (by omega) l.length rfl)
    have HR := Lib.hid (fun W (hW : Below w.heap.size w W) => refEdges_any A cap l W (HIn.out W hW).1 (HIn.out W hW).2 hlen2 (by omega) l.length rfl)
    obtain ⟨E, hE⟩ : ∃ E, edgesV (l.map vX) = E := ⟨_, rfl⟩
    have hEl : E.length ≤ 2000 := by rw [← hE]; exact edges_len _
    have hEl4 : E.length ≤ 4000 := by omega
    rw [hE] at HC HR
    obtain ⟨DD, hD⟩ := dists_are E
    have HD := Lib.hid hD
    have hki : (kk : Int) < 15 := by omega
    obtain ⟨id, hidd⟩ : ∃ i : Int, (1 : Int) + (kk : Int) = i := ⟨_, rfl⟩
    clear hl40 hlens hlen2 hE hD
    go_wp2_with fail
    with_reducible refine Calls.mono (HC.out _ Hb2.out) ?_
    rintro r w3 ⟨⟨v3, rfl, hx3⟩, hb3⟩
    obtain ⟨A3, c3, hv3⟩ := hx3.shape
    subst hv3
    have Hb3 := Lib.hid (below_trans Hb2.out Hb2.out.size hb3)
    have HT := Lib.hid (Tree_any id A3 c3 E w3 (OwnR.rows (C := 5) (cells := Ed.cells) (fun _ => rfl) hx3).2 hEl4 E.length rfl DD HD.out)
    clear hb3 hx3
    go_wp2_with fail
    with_reducible refine Calls.mono HT.out ?_
    rintro r w4 ⟨⟨v, N, rfl, hN, hTr⟩, hb4⟩
    have HTr := Lib.hid hTr
    have HNl := Lib.hid (treeOf_len HD.out hTr)
    have hlow := treeOf_low rfl hTr
    obtain ⟨A5, c5, hv⟩ := hN.row.shape
    subst hv
    obtain ⟨nN, hnN⟩ : ∃ n, N.length = n := ⟨_, rfl⟩
    rw [hnN] at hN ⊢
    have HN := Lib.hid (fun W hW => hN.reads (w' := W) hW hlow)
    have HnN := Lib.hid hnN
    have Hb4 := Lib.hid (below_trans Hb3.out Hb3.out.size hb4)
    clear hN hTr hlow hnN hb4
    go_wp2_with fail
    with_reducible refine Calls.mono (HR.out _ Hb4.out) ?_
    rintro r w5 ⟨⟨v5, rfl, hx5⟩, hb5⟩
    obtain ⟨A6, c6, hv5⟩ := hx5.shape
    subst hv5
    have Hb5 := Lib.hid hb5
    have HRT := Lib.hid (refTree_all id A6 c6 E w5 (OwnR.rows (C := 5) (cells := Ed.cells) (fun _ => rfl) hx5).2 hEl4 E.length rfl DD HD.out)
    clear hb5 hx5
    go_wp2_with fail
    with_reducible refine Calls.mono HRT.out ?_
    rintro r w6 ⟨⟨v, M, rfl, hM, hTm⟩, hb6⟩
    have hNM := treeOf_unique HD.out HTr.out hTm
    have hlowm := treeOf_low rfl hTm
    obtain ⟨A7, c7, hv⟩ := hM.row.shape
    subst hv
    have hll : M.length = nN := by have := congrArg List.length hNM; rw [List.length_map, List.length_map] at this; rw [← this]; exact HnN.out
    rw [hll] at hM ⊢
    have Hb6 := Lib.hid (below_trans Hb5.out Hb5.out.size hb6)
    have HS := Lib.hid (refSame21 A5 A7 c5 c7 nN nN N M w6 (HN.out w6 Hb6.out) (hM.reads (Below.refl _ _) hlowm) hNM (by have := HNl.out; omega) HnN.out.symm hll.symm)
    clear hM hTm hNM hlowm hll hb6
    go_wp2_with fail
    with_reducible refine Calls.mono HS.out ?_
    rintro r w7 ⟨rfl, hb7⟩
    have Hb7 := Lib.hid (below_trans Hb4.out Hb4.out.size (below_trans Hb6.out Hb6.out.size hb7))
    clear hb7
    go_wp2
    go_ret
    exact ⟨rfl, Hb7.out⟩

end Go.Proofs.Ytpfjgecdlilkcaa
