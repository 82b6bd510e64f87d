/-
  Layer 13: a summary's pieces, one behind the other.
-/
import Derived.Test.YtpnbibokddhheaaSuNew
import Derived.Test.YtpnbibokddhheaaQuietTail
import Derived.Test.YtpnbibokddhheaaLkSet
namespace Go.Proofs.Ytpnbibokddhheaa
open Go.RowKit Go.Sort

/-- the place of the next piece -/
def nextAt (a n : Nat) : Nat := if a + 3 < n then a + 3 else n
def pieceAt (H : List Hd) (a : Nat) : List Hd := (H.drop a).take 3
theorem piece_len (H : List Hd) (a : Nat) (_ha : a ≤ H.length) : (pieceAt H a).length = nextAt a H.length - a := by
  unfold pieceAt nextAt
  rw [List.length_take, List.length_drop]
  split <;> omega
theorem next_ge {a n : Nat} (h : a ≤ n) : a ≤ nextAt a n ∧ nextAt a n ≤ n := by unfold nextAt; split <;> omega
theorem row_from {w : World} {B : Nat} {g : Nat} {H : List Hd} {a : Nat} (h : RowsAt 7 Hd.cells w B (some ⟨g, 0, none⟩) H) : RowsAt 7 Hd.cells w B (some ⟨g, a * 7, none⟩) (pieceAt H a) := by
  intro h0
  unfold pieceAt at h0 ⊢
  rw [List.length_take, List.length_drop] at h0
  obtain ⟨b, o, e, hb, hc⟩ := h (by omega)
  injection e with e
  injection e with e1 e2
  subst e1 e2
  refine ⟨g, a * 7, rfl, hb, fun k hk i u hi hu => ?_⟩
  have hk2 : a + k < H.length := by rw [List.length_take, List.length_drop] at hk; omega
  have := hc (a + k) hk2 i u hi (by rw [← hu, List.getElem_take, List.getElem_drop])
  rw [← this]
  congr 2
  omega
theorem more_nextB {a n : Nat} : decide (nextAt a n < n) = decide (a + 3 < n) := by unfold nextAt; split <;> simp_all
set_option maxHeartbeats 4000000 in
set_option maxRecDepth 100000 in
theorem SuPiece_any (s : Nat) (v : Value) (a : Nat) (H : List Hd) (w : World) (h : SmAt w s v a H) (ha : a ≤ H.length) (hl : H.length ≤ 2 ^ 20) : Calls Try.prog 13 #[.pointer (some ⟨s, 0, none⟩)] w fun r w' => (∃ u, r = .returned u ∧ OwnR 34 7 Hd.cells w' w.heap.size u (pieceAt H a)) ∧ Below w.heap.size w w' := by
  obtain ⟨n, hn⟩ : ∃ n, H.length = n := ⟨_, rfl⟩
  obtain ⟨e, he⟩ : ∃ e, nextAt a n = e := ⟨_, rfl⟩
  have hpl := piece_len H a ha
  rw [hn] at ha hl hpl
  have hge := next_ge ha
  rw [he] at hge hpl
  have HS := Lib.hid h
  obtain ⟨c0, c1⟩ : _ ∧ _ := ⟨h.ptr.cell 0, h.ptr.cell 1⟩
  simp only [List.getElem?_toArray, List.getElem?_cons_zero, List.getElem?_cons_succ] at c0 c1
  have hai : (a : Int) ≤ 1048576 := by omega
  have hni : (n : Int) ≤ 1048576 := by omega
  have hge1 : (a : Int) ≤ (e : Int) := by omega
  have hge2 : (e : Int) ≤ (n : Int) := by omega
  obtain ⟨k, hk⟩ : ∃ k, e - a = k := ⟨_, rfl⟩
  have hki : (e : Int) - (a : Int) = (k : Int) := by omega
  have HN := Lib.hid hn
  have HE := Lib.hid (fun q => OwnR.nil (e := 34) (C := 7) (cells := Hd.cells) (w.drewN q) w.heap.size)
  by_cases hz : a = n
  · have hp0 : pieceAt H a = [] := by unfold pieceAt; rw [hz, ← hn, List.drop_length]; rfl
    rw [hp0]
    have Hpl := Lib.hid (show ([] : List Hd).length = 0 from rfl)
    subst hz
    rcases h.own.shape2 with ⟨hv, h0⟩ | ⟨g, cap, hv, hcap⟩
    · subst h0
      obtain rfl : a = 0 := by simpa using hn.symm
      subst hv
      have HR := Lib.hid (fun q => (show RowsAt 7 Hd.cells (w.drewN q) (w.drewN q).heap.size none ([] : List Hd) from fun h0 => absurd h0 (by simp)))
      clear h hn he hpl hge ha hl hk hp0
      simp only [Int.ofNat_zero] at *
      go_enter Try.func13, Try.ntmps13
      go_wp2_with fail
      refine wp_drew_tail 19 (by kernel_rfl) (by kernel_rfl) ?_
      simp only [List.take_succ_cons, List.take_zero, List.drop_succ_cons, List.drop_zero]
      repeat (go_big_quiet_step (fail))
      refine wpQuiet_nil ?_
      rintro w3 ⟨dq, rfl⟩
      go_wp2
      go_ret
      exact ⟨⟨_, rfl, OwnR.nil _ _⟩, below_drewN (Below.refl _ _) dq⟩
    · subst hv
      rw [hn] at c0 hcap
      have hcm : (a : Int) ≤ (cap : Int) := by omega
      by_cases hca : cap = a
      · subst hca
        have HR := Lib.hid (fun q => (show RowsAt 7 Hd.cells (w.drewN q) (w.drewN q).heap.size (some ⟨g, 0, none⟩) ([] : List Hd) from fun h0 => absurd h0 (by simp)))
        clear h hn he hpl hge ha hl hk hp0 hcap
        go_enter Try.func13, Try.ntmps13
        go_wp2_with fail
        refine wp_drew_tail 19 (by kernel_rfl) (by kernel_rfl) ?_
        simp only [List.take_succ_cons, List.take_zero, List.drop_succ_cons, List.drop_zero]
        repeat (go_big_quiet_step (fail))
        refine wpQuiet_nil ?_
        rintro w3 ⟨dq, rfl⟩
        go_wp2
        go_ret
        exact ⟨⟨_, rfl, OwnR.nil _ _⟩, below_drewN (Below.refl _ _) dq⟩
      · have HR := Lib.hid (fun q => (show RowsAt 7 Hd.cells (w.drewN q) (w.drewN q).heap.size (some ⟨g, a * 7, none⟩) ([] : List Hd) from fun h0 => absurd h0 (by simp)))
        clear h hn he hpl hge ha hl hk hp0 hcap
        go_enter Try.func13, Try.ntmps13
        go_wp2_with fail
        refine wp_drew_tail 19 (by kernel_rfl) (by kernel_rfl) ?_
        simp only [List.take_succ_cons, List.take_zero, List.drop_succ_cons, List.drop_zero]
        repeat (go_big_quiet_step (fail))
        refine wpQuiet_nil ?_
        rintro w3 ⟨dq, rfl⟩
        go_wp2
        go_ret
        exact ⟨⟨_, rfl, OwnR.nil _ _⟩, below_drewN (Below.refl _ _) dq⟩
  · have Hpl := Lib.hid (show (pieceAt H a).length = e - a by omega)
    obtain ⟨g, cap, hv, hcap⟩ : ∃ g c, v = .slice (some ⟨g, 0, none⟩) H.length c ∧ H.length ≤ c := by
      rcases h.own.shape2 with ⟨hv, h0⟩ | h0
      · subst h0; simp at hn; omega
      · exact h0
    subst hv
    rw [hn] at c0 hcap
    have HR := Lib.hid (fun q => (show RowsAt 7 Hd.cells (w.drewN q) (w.drewN q).heap.size (some ⟨g, a * 7, none⟩) (pieceAt H a) from row_from (OwnR.rows (C := 7) (cells := Hd.cells) (fun _ => rfl) (HS.out.own.below (below_drewN (Below.refl _ _) q))).2))
    have hcm : (e : Int) ≤ (cap : Int) := by omega
    have hca : ¬ cap = a := by omega
    by_cases hc : a + 3 < n
    · have he2 : (a : Int) + 3 = (e : Int) := by rw [← he]; unfold nextAt; rw [if_pos hc]; omega
      have hci : (e : Int) < (n : Int) := by omega
      clear h hn he hpl hge ha hl hk hcap hc
      go_enter Try.func13, Try.ntmps13
      go_wp2_with fail
      refine wp_drew_tail 19 (by kernel_rfl) (by kernel_rfl) ?_
      simp only [List.take_succ_cons, List.take_zero, List.drop_succ_cons, List.drop_zero]
      repeat (go_big_quiet_step (fail))
      refine wpQuiet_nil ?_
      rintro w3 ⟨dq, rfl⟩
      go_wp2_with (at_builtin; (refine app_rows (e := 34) Hd.cells (fun _ => rfl) (by decide) (bytes := 56) (by decide) infoHd13 rfl Try.underlying27 onesHd13 (by rfl) _ _ (by rfl) w.heap.size _ [] (by rfl) (HE.out _) (some ⟨g, a * 7, none⟩) _ (e - a) (pieceAt H a) Hpl.out.symm (by rfl) (HR.out _) (by have := Hpl.out; simp; omega) (by simp [World.drewN]) ?_); intro v5 w5 hown5 hg5 hor5; have O5 := Lib.hid hown5; have G5 := Lib.hid hg5; clear hown5 hg5 hor5; obtain ⟨A5, c5, hv5⟩ := O5.out.shape; subst hv5)
      go_ret
      exact ⟨⟨_, rfl, by simpa using O5.out⟩, (below_drewN (Below.refl _ _) dq).grown G5.out (by simp [World.drewN]) (fun m e => by cases e)⟩
    · have he2 : e = n := by rw [← he]; unfold nextAt; rw [if_neg hc]
      subst he2
      by_cases hc2 : a + 3 = e
      · have he2 : (a : Int) + 3 = (e : Int) := by omega
        clear h hn he hpl hge ha hl hk hcap hc hc2
        go_enter Try.func13, Try.ntmps13
        go_wp2_with fail
        refine wp_drew_tail 19 (by kernel_rfl) (by kernel_rfl) ?_
        simp only [List.take_succ_cons, List.take_zero, List.drop_succ_cons, List.drop_zero]
        repeat (go_big_quiet_step (fail))
        refine wpQuiet_nil ?_
        rintro w3 ⟨dq, rfl⟩
        go_wp2_with (at_builtin; (refine app_rows (e := 34) Hd.cells (fun _ => rfl) (by decide) (bytes := 56) (by decide) infoHd13 rfl Try.underlying27 onesHd13 (by rfl) _ _ (by rfl) w.heap.size _ [] (by rfl) (HE.out _) (some ⟨g, a * 7, none⟩) _ (e - a) (pieceAt H a) Hpl.out.symm (by rfl) (HR.out _) (by have := Hpl.out; simp; omega) (by simp [World.drewN]) ?_); intro v5 w5 hown5 hg5 hor5; have O5 := Lib.hid hown5; have G5 := Lib.hid hg5; clear hown5 hg5 hor5; obtain ⟨A5, c5, hv5⟩ := O5.out.shape; subst hv5)
        go_ret
        exact ⟨⟨_, rfl, by simpa using O5.out⟩, (below_drewN (Below.refl _ _) dq).grown G5.out (by simp [World.drewN]) (fun m e => by cases e)⟩
      · have hci : (e : Int) < (a : Int) + 3 := by omega
        clear h hn he hpl hge ha hl hk hcap hc hc2
        go_enter Try.func13, Try.ntmps13
        go_wp2_with fail
        refine wp_drew_tail 19 (by kernel_rfl) (by kernel_rfl) ?_
        simp only [List.take_succ_cons, List.take_zero, List.drop_succ_cons, List.drop_zero]
        repeat (go_big_quiet_step (fail))
        refine wpQuiet_nil ?_
        rintro w3 ⟨dq, rfl⟩
        go_wp2_with (at_builtin; (refine app_rows (e := 34) Hd.cells (fun _ => rfl) (by decide) (bytes := 56) (by decide) infoHd13 rfl Try.underlying27 onesHd13 (by rfl) _ _ (by rfl) w.heap.size _ [] (by rfl) (HE.out _) (some ⟨g, a * 7, none⟩) _ (e - a) (pieceAt H a) Hpl.out.symm (by rfl) (HR.out _) (by have := Hpl.out; simp; omega) (by simp [World.drewN]) ?_); intro v5 w5 hown5 hg5 hor5; have O5 := Lib.hid hown5; have G5 := Lib.hid hg5; clear hown5 hg5 hor5; obtain ⟨A5, c5, hv5⟩ := O5.out.shape; subst hv5)
        go_ret
        exact ⟨⟨_, rfl, by simpa using O5.out⟩, (below_drewN (Below.refl _ _) dq).grown G5.out (by simp [World.drewN]) (fun m e => by cases e)⟩
set_option maxHeartbeats 4000000 in
set_option maxRecDepth 100000 in
theorem SuMore_any (s : Nat) (v : Value) (a : Nat) (H : List Hd) (w : World) (h : SmAt w s v a H) (ha : a ≤ H.length) (hl : H.length ≤ 2 ^ 20) : Calls Try.prog 14 #[.pointer (some ⟨s, 0, none⟩)] w fun r w' => r = .returned (.bool (decide (a + 3 < H.length))) ∧ Below w.heap.size w w' := by
  obtain ⟨A, cap, hv⟩ := h.own.shape
  obtain ⟨c0, c1⟩ : _ ∧ _ := ⟨h.ptr.cell 0, h.ptr.cell 1⟩
  simp only [List.getElem?_toArray, List.getElem?_cons_zero, List.getElem?_cons_succ] at c0 c1
  subst hv
  obtain ⟨n, hn⟩ : ∃ n, H.length = n := ⟨_, rfl⟩
  rw [hn] at ha hl c0 ⊢
  have hai : (a : Int) ≤ 1048576 := by omega
  have hni : (n : Int) ≤ 1048576 := by omega
  clear h hn
  go_enter Try.func14, Try.ntmps14
  go_wp2
  go_quiet (fail)
  go_wp2
  go_ret
  refine ⟨?_, below_drewN (Below.refl _ _) _⟩
  have e : decide ((a : Int) + 3 < (n : Int)) = decide (a + 3 < n) := by by_cases h : a + 3 < n <;> simp [h] <;> omega
  rw [← e]
  rfl
set_option maxHeartbeats 4000000 in
set_option maxRecDepth 100000 in
theorem SuStep_any (s : Nat) (v : Value) (a : Nat) (H : List Hd) (w : World) (h : SmAt w s v a H) (ha : a ≤ H.length) (hl : H.length ≤ 2 ^ 20) : Calls Try.prog 15 #[.pointer (some ⟨s, 0, none⟩)] w fun r w' => r = .returned (.bool (decide (a + 3 < H.length))) ∧ SmAt w' s v (nextAt a H.length : Nat) H ∧ w.grownBy w' (some s) := by
  have HM := Lib.hid (SuMore_any s v a H w h ha hl)
  obtain ⟨A, cap, hv⟩ := h.own.shape
  obtain ⟨n, hn⟩ : ∃ n, H.length = n := ⟨_, rfl⟩
  obtain ⟨e, he⟩ : ∃ e, nextAt a n = e := ⟨_, rfl⟩
  rw [hn] at ha hl HM ⊢
  rw [he]
  have HS := Lib.hid h
  have Hv := Lib.hid hv
  have hai : (a : Int) ≤ 1048576 := by omega
  have hni : (n : Int) ≤ 1048576 := by omega
  have Hn := Lib.hid hn
  clear h hv
  go_enter Try.func15, Try.ntmps15
  go_wp2_with fail
  with_reducible refine Calls.mono HM.out ?_
  rintro r w1 ⟨rfl, hb1⟩
  have hs1 := HS.out.keep hb1
  have hsv := Hv.out
  rw [hn] at hsv
  obtain ⟨c0, c1⟩ : _ ∧ _ := ⟨hs1.ptr.cell 0, hs1.ptr.cell 1⟩
  simp only [List.getElem?_toArray, List.getElem?_cons_zero, List.getElem?_cons_succ] at c0 c1
  rw [hsv] at c0
  have hf := hs1.ptr.frozen 1
  have hK := Lib.hid (fun q => hs1.keep (below_drewN (Below.refl _ _) q))
  have hG := Lib.hid (fun q (u : Value) => grown_trans (a := w) (c := w1.drewN q) (d := (w1.drewN q).setCell ⟨s, 1, none⟩ u) (row := some s) (grown_below (World.grownBy.refl w (some s)) (below_trans hb1 hb1.size (below_drewN (Below.refl _ _) q))) (grown_set _ _ _ _))
  by_cases hc : a + 3 < n
  · have he2 : (a : Int) + 3 = (e : Int) := by rw [← he]; unfold nextAt; rw [if_pos hc]; omega
    have hci : (e : Int) < (n : Int) := by omega
    have hcd : decide (a + 3 < n) = true := decide_eq_true hc
    rw [hcd]
    clear hn hsv hs1 hb1 he ha hl hc
    go_wp2_with fail
    refine wp_drew_tail 14 (by kernel_rfl) (by kernel_rfl) ?_
    simp only [List.take_succ_cons, List.take_zero, List.drop_succ_cons, List.drop_zero]
    repeat (go_big_quiet_step (fail))
    refine wpQuiet_nil ?_
    rintro w3 ⟨dq, rfl⟩
    go_wp2
    go_ret
    refine ⟨by first | rfl | (rw [hcd]; rfl), ⟨?_, ?_⟩, ?_⟩
    · have := ((hK.out dq).ptr.set_ 1 (.int .i64 (e : Int))).to (cs' := #[v, .int .i64 (e : Int)]) (by simp)
      exact this
    · exact (hK.out dq).own.set_ (by simp) _
    · exact hG.out dq _
  · have he2 : e = n := by rw [← he]; unfold nextAt; rw [if_neg hc]
    subst he2
    have hcd : decide (a + 3 < e) = false := decide_eq_false hc
    rw [hcd]
    by_cases hc2 : a + 3 = e
    · have he3 : (a : Int) + 3 = (e : Int) := by omega
      clear hn hsv hs1 hb1 he ha hl hc hc2
      go_wp2_with fail
      refine wp_drew_tail 14 (by kernel_rfl) (by kernel_rfl) ?_
      simp only [List.take_succ_cons, List.take_zero, List.drop_succ_cons, List.drop_zero]
      repeat (go_big_quiet_step (fail))
      refine wpQuiet_nil ?_
      rintro w3 ⟨dq, rfl⟩
      go_wp2
      go_ret
      refine ⟨by first | rfl | (rw [hcd]; rfl), ⟨?_, ?_⟩, ?_⟩
      · have := ((hK.out dq).ptr.set_ 1 (.int .i64 (e : Int))).to (cs' := #[v, .int .i64 (e : Int)]) (by simp)
        exact this
      · exact (hK.out dq).own.set_ (by simp) _
      · exact hG.out dq _
    · have hci : (e : Int) < (a : Int) + 3 := by omega
      clear hn hsv hs1 hb1 he ha hl hc hc2
      go_wp2_with fail
      refine wp_drew_tail 14 (by kernel_rfl) (by kernel_rfl) ?_
      simp only [List.take_succ_cons, List.take_zero, List.drop_succ_cons, List.drop_zero]
      repeat (go_big_quiet_step (fail))
      refine wpQuiet_nil ?_
      rintro w3 ⟨dq, rfl⟩
      go_wp2
      go_ret
      refine ⟨by first | rfl | (rw [hcd]; rfl), ⟨?_, ?_⟩, ?_⟩
      · have := ((hK.out dq).ptr.set_ 1 (.int .i64 (e : Int))).to (cs' := #[v, .int .i64 (e : Int)]) (by simp)
        exact this
      · exact (hK.out dq).own.set_ (by simp) _
      · exact hG.out dq _

end Go.Proofs.Ytpnbibokddhheaa
