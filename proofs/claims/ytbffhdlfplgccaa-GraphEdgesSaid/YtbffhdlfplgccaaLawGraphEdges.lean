/-
  The law GraphEdges: its walk.
-/
import Derived.Test.YtbffhdlfplgccaaGrWakes
import Derived.Test.YtbffhdlfplgccaaGrRefF
import Derived.Test.YtbffhdlfplgccaaLsMany
namespace Go.Proofs.Ytbffhdlfplgccaa
open Go.RowKit Go.Sort

theorem edges_len (f : Int → Int → Option Int) : (edgesC f).length ≤ 2000 := by
  rw [edges_pre, List.length_append]
  have h1 := preA_len f 15
  have h2 := preB_len f 64
  omega
theorem leaves_len (f : Int → Int → Option Int) : (leavesC f).length ≤ 100 := by
  rw [leaves_pre]
  have h1 := preF_len f 15
  omega
set_option maxHeartbeats 4000000 in
set_option maxRecDepth 100000 in
theorem graphEdges_any (A : Option Addr) (cap : Nat) (l : List Lsa) (w : World) (hl : LsasAt w w.heap.size A l) (hm : l.length ≤ maxLen) :
    Calls Try.prog 9 #[.slice A l.length cap] w fun r w' => r = .returned (.bool true) ∧ Below w.heap.size w w' := by
  have HL := Lib.hid hl
  obtain ⟨t, ht⟩ : ∃ t, manyB 40 l = t := ⟨_, rfl⟩
  have HMany := Lib.hid (fun W (hW : Below w.heap.size w W) => many20 A cap l W w.heap.size (hl.rows.below hW) hW.size hm l.length rfl ht)
  have Ht := Lib.hid ht
  clear hl hm ht
  go_enter Try.func9, Try.ntmps9
  go_wp2_with fail
  with_reducible refine Calls.mono (wakes20 _) ?_
  rintro r w1 ⟨rfl, hb1⟩
  have Hb1 := Lib.hid hb1
  clear hb1
  go_wp2_with fail
  with_reducible refine Calls.mono (HMany.out _ Hb1.out) ?_
  rintro r w2 ⟨rfl, hb2⟩
  have Hb2 := Lib.hid (below_trans Hb1.out Hb1.out.size hb2)
  clear hb2
  cases t with
  | true =>
    go_wp2
    go_ret
    exact ⟨rfl, Hb2.out⟩
  | false =>
    obtain ⟨hl40, hlens⟩ := manyB_lens Ht.out
    have hlen2 : ∀ x ∈ l, x.links.length ≤ 1000 ∧ x.members.length ≤ 1000 := fun x hx => by have := hlens x hx; omega
    have HIn := Lib.hid (fun W (hW : Below w.heap.size w W) => (show RowsAt 9 Lsa.cells W W.heap.size A l ∧ ∀ x ∈ l, RowsAt 4 Lnk.cells W W.heap.size x.ka x.links ∧ RowsAt 1 icell W W.heap.size x.ma x.members from ⟨(HL.out.rows.below hW).more hW.size, fun x hx => ⟨((HL.out.each x hx).links.below hW).more hW.size, ((HL.out.each x hx).members.below hW).more hW.size⟩⟩))
    have HC := Lib.hid (fun W (hW : Below w.heap.size w W) => Edges_any A cap l W (HIn.out W hW).1 (HIn.out W hW).2 hlen2 (by omega) l.length rfl)
    have HR := Lib.hid (fun W (hW : Below w.heap.size w W) => refEdges_any A cap l W (HIn.out W hW).1 (HIn.out W hW).2 hlen2 (by omega) l.length rfl)
    have HCf := Lib.hid (fun W (hW : Below w.heap.size w W) => Leaves_any A cap l W (HIn.out W hW).1 (HIn.out W hW).2 hlen2 (by omega) l.length rfl)
    have HRf := Lib.hid (fun W (hW : Below w.heap.size w W) => refLeaves_any A cap l W (HIn.out W hW).1 (HIn.out W hW).2 hlen2 (by omega) l.length rfl)
    obtain ⟨E, hE⟩ : ∃ E, edgesV (l.map vX) = E := ⟨_, rfl⟩
    obtain ⟨F, hF⟩ : ∃ F, leavesV (l.map vX) = F := ⟨_, rfl⟩
    have hEl : E.length ≤ 2000 := by rw [← hE]; exact edges_len _
    have hFl : F.length ≤ 100 := by rw [← hF]; exact leaves_len _
    rw [hE] at HC HR
    rw [hF] at HCf HRf
    clear hl40 hlens hlen2 hE hF
    go_wp2_with fail
    with_reducible refine Calls.mono (HC.out _ Hb2.out) ?_
    rintro r w3 ⟨⟨v3, rfl, hx3⟩, hb3⟩
    obtain ⟨A3, c3, hv3⟩ := hx3.shape
    subst hv3
    have Hb3 := Lib.hid (below_trans Hb2.out Hb2.out.size hb3)
    have HX3 := Lib.hid hx3
    clear hb3 hx3
    go_wp2_with fail
    with_reducible refine Calls.mono (HR.out _ Hb3.out) ?_
    rintro r w4 ⟨⟨v4, rfl, hx4⟩, hb4⟩
    obtain ⟨A4, c4, hv4⟩ := hx4.shape
    subst hv4
    have Hb4 := Lib.hid (below_trans Hb3.out Hb3.out.size hb4)
    have HS := Lib.hid (Same20s A3 A4 c3 c4 E w4 w4.heap.size w4.heap.size (OwnR.rows (C := 5) (cells := Ed.cells) (fun _ => rfl) (HX3.out.below hb4)).2 (OwnR.rows (C := 5) (cells := Ed.cells) (fun _ => rfl) hx4).2 (Nat.le_refl _) (Nat.le_refl _) (by omega) E.length E.length rfl rfl)
    clear hb4 hx4
    go_wp2_with fail
    with_reducible refine Calls.mono HS.out ?_
    rintro r w5 ⟨rfl, hb5⟩
    have Hb5 := Lib.hid (below_trans Hb4.out Hb4.out.size hb5)
    clear hb5
    go_wp2_with fail
    with_reducible refine Calls.mono (HCf.out _ Hb5.out) ?_
    rintro r w6 ⟨⟨v6, rfl, hx6⟩, hb6⟩
    obtain ⟨A6, c6, hv6⟩ := hx6.shape
    subst hv6
    have Hb6 := Lib.hid (below_trans Hb5.out Hb5.out.size hb6)
    have HX6 := Lib.hid hx6
    clear hb6 hx6
    go_wp2_with fail
    with_reducible refine Calls.mono (HRf.out _ Hb6.out) ?_
    rintro r w7 ⟨⟨v7, rfl, hx7⟩, hb7⟩
    obtain ⟨A7, c7, hv7⟩ := hx7.shape
    subst hv7
    have Hb7 := Lib.hid (below_trans Hb6.out Hb6.out.size hb7)
    have HS2 := Lib.hid (SameF20s A6 A7 c6 c7 F w7 w7.heap.size w7.heap.size (OwnR.rows (C := 3) (cells := Lf.cells) (fun _ => rfl) (HX6.out.below hb7)).2 (OwnR.rows (C := 3) (cells := Lf.cells) (fun _ => rfl) hx7).2 (Nat.le_refl _) (Nat.le_refl _) (by omega) F.length F.length rfl rfl)
    clear hb7 hx7
    go_wp2_with fail
    with_reducible refine Calls.mono HS2.out ?_
    rintro r w8 ⟨rfl, hb8⟩
    have Hb8 := Lib.hid (below_trans Hb7.out Hb7.out.size hb8)
    clear hb8
    go_wp2
    go_ret
    exact ⟨rfl, Hb8.out⟩

end Go.Proofs.Ytbffhdlfplgccaa
