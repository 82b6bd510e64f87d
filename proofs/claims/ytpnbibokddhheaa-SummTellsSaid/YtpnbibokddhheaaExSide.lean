/-
  Layer 14: a summary of nothing.
-/
import Derived.Test.YtpnbibokddhheaaSuPiece
namespace Go.Proofs.Ytpnbibokddhheaa
open Go.RowKit Go.Sort

set_option maxHeartbeats 1000000 in
theorem insert0 (A : Option Addr) (c : Nat) (f : Value) (w : World) : Calls Try.prog 93 #[.slice A 0 c, .int .i64 0, .int .i64 0, f] w fun r w' => r = .returned (.tuple #[]) ∧ w' = w := by
  go_enter Try.func93, Try.ntmps93
  go_wp2
  go_loopw [8] (fun i wr => i = .int .i64 1 ∧ wr = w) (fun _ _ => 0)
  case atStart => exact ⟨rfl, rfl⟩
  case round =>
    obtain ⟨rfl, rfl⟩ := hrel
    go_wp2
    refine bodyPost_end (results_none rfl _ _ _) rfl ?_
    exact ⟨rfl, rfl⟩
set_option maxHeartbeats 1000000 in
theorem stable0 (A : Option Addr) (c : Nat) (f : Value) (w : World) : Calls Try.prog 72 #[.slice A 0 c, .int .i64 0, f] w fun r w' => r = .returned (.tuple #[]) ∧ w' = w := by
  go_enter Try.func72, Try.ntmps72
  go_wp2
  go_loopw [7, 8] (fun a b wr => a = .int .i64 0 ∧ b = .int .i64 20 ∧ wr = w) (fun _ _ _ => 0)
  case atStart => exact ⟨rfl, rfl, rfl⟩
  case round =>
    obtain ⟨rfl, rfl, rfl⟩ := hrel
    go_wp2_with fail
    with_reducible refine Calls.mono (insert0 _ _ _ _) ?_
    rintro r w2 ⟨rfl, rfl⟩
    obtain ⟨wo, hwo⟩ : ∃ wo : World, wo = w2 := ⟨_, rfl⟩
    go_wp2
    go_loopw [6] (fun a wx => a = .int .i64 20 ∧ wx = wo) (fun _ _ => 0)
    case atStart => exact ⟨rfl, hwo.symm⟩
    case round =>
      obtain ⟨rfl, rfl⟩ := hrel
      go_wp2
      refine bodyPost_end (results_none rfl _ _ _) rfl ?_
      exact ⟨rfl, rfl⟩
set_option maxHeartbeats 1000000 in
theorem sortStable0 (A : Option Addr) (c : Nat) (f : Value) (w : World) : Calls Try.prog 44 #[.slice A 0 c, f] w fun r w' => r = .returned (.tuple #[]) ∧ w' = w := by
  go_enter Try.func44, Try.ntmps44
  go_wp2_with fail
  with_reducible refine Calls.mono (stable0 _ _ _ _) ?_
  rintro r w2 ⟨rfl, rfl⟩
  go_wp2
  refine bodyPost_end (results_none rfl _ _ _) rfl ?_
  exact ⟨rfl, rfl⟩
theorem SuNew_none (w : World) : Calls Try.prog 10 #[.slice none 0 0] w fun r w' => r = .returned (.pointer (some ⟨w.heap.size, 0, none⟩)) ∧ (∃ v, SmAt w' w.heap.size v 0 []) ∧ Below w.heap.size w w' := by
  refine SuNew_any none 0 [] w w.heap.size RowsAt.nil (Nat.le_refl _) (by decide) 0 rfl [] (fun W' v hown => ?_)
  have hown2 : OwnR 34 7 Hd.cells W' (w.heap.size + 1) v [] := hown
  obtain ⟨A7, c7, hv⟩ := hown2.shape
  subst hv
  refine (sortStable0 A7 c7 _ W').mono ?_
  rintro r w' ⟨rfl, rfl⟩
  exact ⟨rfl, hown2, World.grownBy.refl _ _⟩
theorem app_none (w : World) (A : Option Addr) (c : Nat) : (Builtin.append_ #[27, 27] 27 #[.slice none 0 0, .slice A 0 c]).run Try.prog w = .ok (.slice none 0 0) w := by
  cases A <;> kernel_rfl
set_option maxHeartbeats 4000000 in
set_option maxRecDepth 100000 in
theorem SuPiece_none (s : Nat) (v : Value) (w : World) (h : SmAt w s v 0 []) : Calls Try.prog 13 #[.pointer (some ⟨s, 0, none⟩)] w fun r w' => r = .returned (.slice none 0 0) ∧ Below w.heap.size w w' := by
  have happ := app_none
  obtain ⟨c0, c1⟩ : _ ∧ _ := ⟨h.ptr.cell 0, h.ptr.cell 1⟩
  simp only [List.getElem?_toArray, List.getElem?_cons_zero, List.getElem?_cons_succ] at c0 c1
  rcases h.own.shape2 with ⟨hv, -⟩ | ⟨g, c5, hv, hc5⟩
  all_goals
    subst hv
    clear h
    try simp only [List.length_nil] at c0
    go_enter Try.func13, Try.ntmps13
    go_wp2_with fail
    refine wp_drew_tail 19 (by kernel_rfl) (by kernel_rfl) ?_
    simp only [List.take_succ_cons, List.take_zero, List.drop_succ_cons, List.drop_zero]
    repeat (go_big_quiet_step (fail))
    refine wpQuiet_nil ?_
    rintro w3 ⟨dq, rfl⟩
    go_wp2
    go_ret
    exact ⟨rfl, below_drewN (Below.refl _ _) dq⟩
set_option maxHeartbeats 4000000 in
set_option maxRecDepth 100000 in
theorem SuMore_none (s : Nat) (v : Value) (w : World) (h : SmAt w s v 0 []) : Calls Try.prog 14 #[.pointer (some ⟨s, 0, none⟩)] w fun r w' => r = .returned (.bool false) ∧ Below w.heap.size w w' := by
  obtain ⟨c0, c1⟩ : _ ∧ _ := ⟨h.ptr.cell 0, h.ptr.cell 1⟩
  simp only [List.getElem?_toArray, List.getElem?_cons_zero, List.getElem?_cons_succ] at c0 c1
  obtain ⟨A7, c7, hv⟩ := h.own.shape
  subst hv
  clear h
  simp only [List.length_nil] at c0
  go_enter Try.func14, Try.ntmps14
  go_wp2_with fail
  refine wp_drew_tail 15 (by kernel_rfl) (by kernel_rfl) ?_
  simp only [List.take_succ_cons, List.take_zero, List.drop_succ_cons, List.drop_zero]
  repeat (go_big_quiet_step (fail))
  refine wpQuiet_nil ?_
  rintro w3 ⟨dq, rfl⟩
  go_wp2
  go_ret
  exact ⟨rfl, below_drewN (Below.refl _ _) dq⟩

end Go.Proofs.Ytpnbibokddhheaa
