/-
  slices.Clone at the slices that a description has.
-/
import Derived.Test.YtpfjgecdlilkcaaOwnR
import Derived.Test.YtpfjgecdlilkcaaLsRight
namespace Go.Proofs.Ytpfjgecdlilkcaa
open Go.RowKit

theorem own_empty {α : Type} {e : TypeId} {C : Nat} {cells : α → List Value} (w : World) : OwnR e C cells (w.alloc (.cells #[] e)) w.heap.size (.slice (some ⟨w.heap.size, 0, none⟩) 0 0) ([] : List α) := by
  exact ⟨by simp, .inr ⟨w.heap.size, 0, #[], rfl, Nat.le_refl _, Blk.new w e #[], by simp, by unfold maxLen; omega, by simp, by simp⟩⟩
theorem infoInt' : (Try.prog.info? 3).map (fun i => (i.zero, i.size, i.bytes)) = some (some (.int .i64 0), 1, 8) := by kernel_rfl
theorem onesI (x : Int) : ∀ u ∈ icell x, u.oneCell' = true := by
  intro u hu
  simp [icell] at hu
  subst hu
  rfl
theorem infoLnk : (Try.prog.info? 73).map (fun i => (i.zero, i.size, i.bytes)) = some (some (.agg #[.int .i64 0, .int .i64 0, .int .i64 0, .int .i64 0]), 4, 32) := by kernel_rfl
theorem onesL (x : Lnk) : ∀ u ∈ Lnk.cells x, u.oneCell' = true := by
  intro u hu
  simp [Lnk.cells] at hu
  rcases hu with rfl | rfl | rfl | rfl <;> rfl
set_option maxHeartbeats 2000000 in
set_option maxRecDepth 100000 in
theorem cloneInt (A : Option Addr) (c : Nat) (M : List Int) (w : World) (B : Nat) (h : RowsAt 1 icell w B A M) (hB : B ≤ w.heap.size) (hl : M.length ≤ 2 ^ 20) (n : Nat) (hn : n = M.length) :
    Calls Try.prog 45 #[.slice A n c] w fun r w' => ∃ v, r = .returned v ∧ OwnR 3 1 icell w' w.heap.size v M ∧ Below w.heap.size w w' := by
  subst hn
  cases A with
  | none =>
    have hM : M = [] := by
      rcases Nat.eq_zero_or_pos M.length with h0 | h0
      · exact List.eq_nil_of_length_eq_zero h0
      · obtain ⟨b, o, e, -⟩ := h h0
        cases e
    subst hM
    clear h
    have hnil := fun (w : World) => Lib.run_eql_slice_nil (P := Try.prog) w 28 3 none 0 c 0 0 Try.underlying28
    simp only [List.length_nil]
    go_enter Try.func45, Try.ntmps45
    go_wp2
    go_ret
    exact ⟨_, rfl, OwnR.nil _ _, Below.refl _ _⟩
  | some a =>
    have H := Lib.hid (h.more hB)
    have HE : Hid (OwnR 3 1 icell (w.alloc (.cells #[] 3)) w.heap.size (.slice (some ⟨w.heap.size, 0, none⟩) 0 0) ([] : List Int)) := Lib.hid (own_empty _)
    have hb1 := (Below.refl w.heap.size w).alloc (Nat.le_refl _) (.cells #[] 3)
    have Hb1 := Lib.hid hb1
    clear h hB hb1
    have hnil := fun (w : World) => Lib.run_eql_slice_nil (P := Try.prog) w 28 3 (some a) M.length c 0 0 Try.underlying28
    go_enter Try.func45, Try.ntmps45
    go_wp2_with (at_builtin; (refine app_rows (e := 3) icell (fun _ => rfl) (by decide) (bytes := 8) (by decide) infoInt' rfl Try.underlying28 onesI (by rfl) _ _ (by rfl) w.heap.size _ [] (by rfl) HE.out (some a) c M.length M rfl (by rfl) ((H.out.below Hb1.out).more (by simp)) (by simp; omega) (by simp) ?_); intro v5 w5 hown5 hg5 hor5; have Hown5 := Lib.hid hown5; have Hb5 := Lib.hid (Hb1.out.grown hg5 (by simp) (fun j hj => (HE.out.block j hj).1)); clear hown5 hg5 hor5)
    go_ret
    exact ⟨_, rfl, by simpa using Hown5.out, Hb5.out⟩
set_option maxHeartbeats 2000000 in
set_option maxRecDepth 100000 in
theorem cloneLnk (A : Option Addr) (c : Nat) (M : List Lnk) (w : World) (B : Nat) (h : RowsAt 4 Lnk.cells w B A M) (hB : B ≤ w.heap.size) (hl : M.length ≤ 2 ^ 20) (n : Nat) (hn : n = M.length) :
    Calls Try.prog 44 #[.slice A n c] w fun r w' => ∃ v, r = .returned v ∧ OwnR 73 4 Lnk.cells w' w.heap.size v M ∧ Below w.heap.size w w' := by
  subst hn
  cases A with
  | none =>
    have hM : M = [] := by
      rcases Nat.eq_zero_or_pos M.length with h0 | h0
      · exact List.eq_nil_of_length_eq_zero h0
      · obtain ⟨b, o, e, -⟩ := h h0
        cases e
    subst hM
    clear h
    have hnil := fun (w : World) => Lib.run_eql_slice_nil (P := Try.prog) w 27 73 none 0 c 0 0 Try.underlying27
    simp only [List.length_nil]
    go_enter Try.func44, Try.ntmps44
    go_wp2
    go_ret
    exact ⟨_, rfl, OwnR.nil _ _, Below.refl _ _⟩
  | some a =>
    have H := Lib.hid (h.more hB)
    have HE : Hid (OwnR 73 4 Lnk.cells (w.alloc (.cells #[] 73)) w.heap.size (.slice (some ⟨w.heap.size, 0, none⟩) 0 0) ([] : List Lnk)) := Lib.hid (own_empty _)
    have hb1 := (Below.refl w.heap.size w).alloc (Nat.le_refl _) (.cells #[] 73)
    have Hb1 := Lib.hid hb1
    clear h hB hb1
    have hnil := fun (w : World) => Lib.run_eql_slice_nil (P := Try.prog) w 27 73 (some a) M.length c 0 0 Try.underlying27
    go_enter Try.func44, Try.ntmps44
    go_wp2_with (at_builtin; (refine app_rows (e := 73) Lnk.cells (fun _ => rfl) (by decide) (bytes := 32) (by decide) infoLnk rfl Try.underlying27 onesL (by rfl) _ _ (by rfl) w.heap.size _ [] (by rfl) HE.out (some a) c M.length M rfl (by rfl) ((H.out.below Hb1.out).more (by simp)) (by simp; omega) (by simp) ?_); intro v5 w5 hown5 hg5 hor5; have Hown5 := Lib.hid hown5; have Hb5 := Lib.hid (Hb1.out.grown hg5 (by simp) (fun j hj => (HE.out.block j hj).1)); clear hown5 hg5 hor5)
    go_ret
    exact ⟨_, rfl, by simpa using Hown5.out, Hb5.out⟩

end Go.Proofs.Ytpfjgecdlilkcaa
