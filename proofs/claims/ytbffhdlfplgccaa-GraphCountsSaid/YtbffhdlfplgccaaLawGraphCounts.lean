/-
  The law GraphCounts: its walk.
-/
import Derived.Test.YtbffhdlfplgccaaGrWakes
import Derived.Test.YtbffhdlfplgccaaGrRefE
import Derived.Test.YtbffhdlfplgccaaLsMany
namespace Go.Proofs.Ytbffhdlfplgccaa
open Go.RowKit Go.Sort

set_option maxHeartbeats 4000000 in
set_option maxRecDepth 100000 in
theorem graphCounts_any (A : Option Addr) (cap : Nat) (l : List Lsa) (w : World) (hl : LsasAt w w.heap.size A l) (hm : l.length ≤ maxLen) :
    Calls Try.prog 7 #[.slice A l.length cap] w fun r w' => r = .returned (.bool true) ∧ Below w.heap.size w w' := by
  have HL := Lib.hid hl
  obtain ⟨t, ht⟩ : ∃ t, manyB 40 l = t := ⟨_, rfl⟩
  have HMany := Lib.hid (fun W (hW : Below w.heap.size w W) => many20 A cap l W w.heap.size (hl.rows.below hW) hW.size hm l.length rfl ht)
  have Ht := Lib.hid ht
  clear hl hm ht
  go_enter Try.func7, Try.ntmps7
  go_wp2_with fail
  with_reducible refine Calls.mono (wakes20 _) ?_
  rintro r w1 ⟨rfl, hb1⟩
  have Hb1 := Lib.hid hb1
  clear hb1
  go_wp2_with fail
  with_reducible refine Calls.mono (HMany.out _ Hb1.out) ?_
  rintro r w2 ⟨rfl, hb2⟩
  have Hb2 := Lib.hid (below_trans Hb1.out Hb1.out.size hb2)
  clear hb2
  cases t with
  | true =>
    go_wp2
    go_ret
    exact ⟨rfl, Hb2.out⟩
  | false =>
    obtain ⟨hl40, hlens⟩ := manyB_lens Ht.out
    have hlen2 : ∀ x ∈ l, x.links.length ≤ 1000 ∧ x.members.length ≤ 1000 := fun x hx => by have := hlens x hx; omega
    have HIn := Lib.hid (fun W (hW : Below w.heap.size w W) => (show RowsAt 9 Lsa.cells W W.heap.size A l ∧ ∀ x ∈ l, RowsAt 4 Lnk.cells W W.heap.size x.ka x.links ∧ RowsAt 1 icell W W.heap.size x.ma x.members from ⟨(HL.out.rows.below hW).more hW.size, fun x hx => ⟨((HL.out.each x hx).links.below hW).more hW.size, ((HL.out.each x hx).members.below hW).more hW.size⟩⟩))
    have HC := Lib.hid (fun W (hW : Below w.heap.size w W) => Counts_any A cap l W (HIn.out W hW).1 (HIn.out W hW).2 hlen2 (by omega) l.length rfl)
    have HR := Lib.hid (fun W (hW : Below w.heap.size w W) => refCounts_any A cap l W (HIn.out W hW).1 (HIn.out W hW).2 hlen2 (by omega) l.length rfl)
    have Hl40 := Lib.hid hl40
    clear hl40 hlens hlen2
    go_wp2_with fail
    with_reducible refine Calls.mono (HC.out _ Hb2.out) ?_
    rintro r w3 ⟨⟨v3, rfl, O3, hx3, hO3⟩, hb3⟩
    obtain ⟨A3, c3, hv3⟩ := hx3.own.shape
    subst hv3
    have Hb3 := Lib.hid (below_trans Hb2.out Hb2.out.size hb3)
    have HX3 := Lib.hid hx3
    have HO3 := Lib.hid hO3
    clear hb3 hx3 hO3
    go_wp2_with fail
    with_reducible refine Calls.mono (HR.out _ Hb3.out) ?_
    rintro r w4 ⟨⟨v4, rfl, O4, hx4, hO4⟩, hb4⟩
    obtain ⟨A4, c4, hv4⟩ := hx4.own.shape
    subst hv4
    have Hb4 := Lib.hid (below_trans Hb3.out Hb3.out.size hb4)
    have hx34 := HX3.out.keep hb4
    have hlO : O3.length ≤ 2 ^ 20 := by
      have h1 := congrArg List.length HO3.out
      have h2 := countsV_len (l.map vX)
      have := Hl40.out
      rw [List.length_map] at h1 h2
      omega
    have HS := Lib.hid (refSame7 A3 A4 c3 c4 O3 O4 w4 (OwnR.rows (C := 9) (cells := Lsa.cells) (fun _ => rfl) hx34.own).2 (OwnR.rows (C := 9) (cells := Lsa.cells) (fun _ => rfl) hx4.own).2 hx34.rows hx4.rows hx34.lens (by rw [HO3.out, hO4]) hlO O3.length O4.length rfl rfl)
    clear hb4 hx4 hO4 hx34 hlO
    go_wp2_with fail
    with_reducible refine Calls.mono HS.out ?_
    rintro r w5 ⟨rfl, hb5⟩
    have Hb5 := Lib.hid (below_trans Hb4.out Hb4.out.size hb5)
    clear hb5
    go_wp2
    go_ret
    exact ⟨rfl, Hb5.out⟩

end Go.Proofs.Ytbffhdlfplgccaa
