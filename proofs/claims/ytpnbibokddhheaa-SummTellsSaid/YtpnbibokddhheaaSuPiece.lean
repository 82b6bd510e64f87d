/-
  Layer 13: a piece of a summary; the methods of one that is not there.
-/
import Derived.Test.YtpnbibokddhheaaSuNew
import Derived.Test.YtpnbibokddhheaaQuietTail
namespace Go.Proofs.Ytpnbibokddhheaa
open Go.RowKit Go.Sort

theorem SuPiece_nil (w : World) : Calls Try.prog 13 #[.pointer none] w fun r w' => r = .returned (.slice none 0 0) ∧ Below w.heap.size w w' := by
  go_enter Try.func13, Try.ntmps13
  go_wp2
  go_ret
  exact ⟨rfl, Below.refl _ _⟩
theorem SuStep_nil (w : World) : Calls Try.prog 15 #[.pointer none] w fun r w' => r = .returned (.bool false) ∧ Below w.heap.size w w' := by
  go_enter Try.func15, Try.ntmps15
  go_wp2
  go_ret
  exact ⟨rfl, Below.refl _ _⟩
set_option maxRecDepth 100000 in
theorem SuMore_nil (w : World) : Calls Try.prog 14 #[.pointer none] w fun r w' => r = .returned (.bool false) ∧ Below w.heap.size w w' := by
  go_enter Try.func14, Try.ntmps14
  go_wp2_with fail
  refine wp_drew_tail 15 (by kernel_rfl) (by kernel_rfl) ?_
  simp only [List.take_succ_cons, List.take_zero, List.drop_succ_cons, List.drop_zero]
  repeat (go_big_quiet_step (fail))
  refine wpQuiet_nil ?_
  rintro w3 ⟨dq, rfl⟩
  go_wp2
  go_ret
  exact ⟨rfl, below_drewN (Below.refl _ _) dq⟩
set_option maxHeartbeats 4000000 in
set_option maxRecDepth 100000 in
theorem SuPiece_one (s : Nat) (v : Value) (x : Hd) (w : World) (h : SmAt w s v 0 [x]) : Calls Try.prog 13 #[.pointer (some ⟨s, 0, none⟩)] w fun r w' => (∃ u, r = .returned u ∧ OwnR 34 7 Hd.cells w' w.heap.size u [x]) ∧ Below w.heap.size w w' := by
  obtain ⟨g, cap, hc, hv⟩ : ∃ g c, 1 ≤ c ∧ v = .slice (some ⟨g, 0, none⟩) 1 c := by
    rcases h.own.shape2 with ⟨-, hl⟩ | ⟨g, c5, rfl, hc5⟩
    · cases hl
    · exact ⟨g, c5, hc5, rfl⟩
  subst hv
  have HS := Lib.hid h
  obtain ⟨c0, c1⟩ : _ ∧ _ := ⟨h.ptr.cell 0, h.ptr.cell 1⟩
  simp only [List.getElem?_toArray, List.getElem?_cons_zero, List.getElem?_cons_succ] at c0 c1
  have hcn : ¬ cap < 1 := by omega
  clear h
  go_enter Try.func13, Try.ntmps13
  go_wp2_with fail
  refine wp_drew_tail 19 (by kernel_rfl) (by kernel_rfl) ?_
  simp only [List.take_succ_cons, List.take_zero, List.drop_succ_cons, List.drop_zero]
  repeat (go_big_quiet_step (fail))
  refine wpQuiet_nil ?_
  rintro w3 ⟨dq, rfl⟩
  have HR := Lib.hid (show RowsAt 7 Hd.cells (w.drewN dq) (w.drewN dq).heap.size (some ⟨g, 0, none⟩) [x] from (OwnR.rows (C := 7) (cells := Hd.cells) (fun _ => rfl) HS.out.own).2)
  have HE := Lib.hid (OwnR.nil (e := 34) (C := 7) (cells := Hd.cells) (w.drewN dq) w.heap.size)
  go_wp2_with (at_builtin; (refine app_rows (e := 34) Hd.cells (fun _ => rfl) (by decide) (bytes := 56) (by decide) infoHd13 rfl Try.underlying27 onesHd13 (by rfl) _ _ (by rfl) w.heap.size _ [] (by rfl) HE.out (some ⟨g, 0, none⟩) _ 1 [x] rfl (by rfl) HR.out (by simp) (by simp [World.drewN]) ?_); intro v5 w5 hown5 hg5 hor5; have O5 := Lib.hid hown5; have G5 := Lib.hid hg5; clear hown5 hg5 hor5)
  obtain ⟨A5, c5, hv5⟩ := O5.out.shape
  subst hv5
  go_wp2
  go_ret
  exact ⟨⟨_, rfl, O5.out⟩, (below_drewN (Below.refl _ _) dq).grown G5.out (by simp [World.drewN]) (fun m e => by cases e)⟩

end Go.Proofs.Ytpnbibokddhheaa
