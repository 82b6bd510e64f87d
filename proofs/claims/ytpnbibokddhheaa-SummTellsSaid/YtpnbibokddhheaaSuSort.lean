/-
  Layer 13: the sorts of the summary; a stable one of a single head.
-/
import Derived.Test.YtpnbibokddhheaaGenSort
import Derived.Test.YtpnbibokddhheaaLaySortKey
import Derived.Test.YtpnbibokddhheaaCmpTail
import Derived.Test.YtpnbibokddhheaaKyPlain
namespace Go.Proofs.Ytpnbibokddhheaa
open Go.RowKit Go.Sort Go.Proofs

set_option maxHeartbeats 1000000 in
theorem insert1 (A : Option Addr) (c : Nat) (f : Value) (w : World) : Calls Try.prog 93 #[.slice A 1 c, .int .i64 0, .int .i64 1, f] w fun r w' => r = .returned (.tuple #[]) ∧ w' = w := by
  go_enter Try.func93, Try.ntmps93
  go_wp2
  go_loopw [8] (fun i wr => i = .int .i64 1 ∧ wr = w) (fun _ _ => 0)
  case atStart => exact ⟨rfl, rfl⟩
  case round =>
    obtain ⟨rfl, rfl⟩ := hrel
    go_wp2
    refine bodyPost_end (results_none rfl _ _ _) rfl ?_
    exact ⟨rfl, rfl⟩
set_option maxHeartbeats 1000000 in
theorem stable1 (A : Option Addr) (c : Nat) (f : Value) (w : World) : Calls Try.prog 72 #[.slice A 1 c, .int .i64 1, f] w fun r w' => r = .returned (.tuple #[]) ∧ w' = w := by
  go_enter Try.func72, Try.ntmps72
  go_wp2
  go_loopw [7, 8] (fun a b wr => a = .int .i64 0 ∧ b = .int .i64 20 ∧ wr = w) (fun _ _ _ => 0)
  case atStart => exact ⟨rfl, rfl, rfl⟩
  case round =>
    obtain ⟨rfl, rfl, rfl⟩ := hrel
    go_wp2_with fail
    with_reducible refine Calls.mono (insert1 _ _ _ _) ?_
    rintro r w2 ⟨rfl, rfl⟩
    obtain ⟨wo, hwo⟩ : ∃ wo : World, wo = w2 := ⟨_, rfl⟩
    go_wp2
    go_loopw [6] (fun a wx => a = .int .i64 20 ∧ wx = wo) (fun _ _ => 0)
    case atStart => exact ⟨rfl, hwo.symm⟩
    case round =>
      obtain ⟨rfl, rfl⟩ := hrel
      go_wp2
      refine bodyPost_end (results_none rfl _ _ _) rfl ?_
      exact ⟨rfl, rfl⟩
set_option maxHeartbeats 1000000 in
theorem sortStable1 (A : Option Addr) (c : Nat) (f : Value) (w : World) : Calls Try.prog 44 #[.slice A 1 c, f] w fun r w' => r = .returned (.tuple #[]) ∧ w' = w := by
  go_enter Try.func44, Try.ntmps44
  go_wp2_with fail
  with_reducible refine Calls.mono (stable1 _ _ _ _) ?_
  rintro r w2 ⟨rfl, rfl⟩
  go_wp2
  refine bodyPost_end (results_none rfl _ _ _) rfl ?_
  exact ⟨rfl, rfl⟩
set_option maxHeartbeats 1000000 in
theorem compact1 (A : Option Addr) (c n : Nat) (hn : n < 2) (w : World) : Calls Try.prog 71 #[.slice A n c] w fun r w' => r = .returned (.slice A n c) ∧ w' = w := by
  have hn' : (n : Int) < 2 := by omega
  go_enter Try.func71, Try.ntmps71
  go_wp2
  go_ret
  exact ⟨rfl, rfl⟩
set_option maxHeartbeats 2000000 in
set_option maxRecDepth 100000 in
theorem before_g13 (a1 a2 a3 b1 b2 b3 : Int) (w : World) : Calls Try.prog 46 #[.agg #[.int .i64 a1, .int .i64 a2, .int .i64 a3], .agg #[.int .i64 b1, .int .i64 b2, .int .i64 b3]] w fun r w' => r = .returned (.int .i64 (cmp3 a1 a2 a3 b1 b2 b3)) ∧ ∃ q os', w' = grow (w.drewN q) os' := by
  obtain ⟨w0, hW0⟩ : ∃ w0, (w.alloc (.cells #[.int .i64 a1, .int .i64 a2, .int .i64 a3] 85)).alloc (.cells #[.int .i64 b1, .int .i64 b2, .int .i64 b3] 85) = w0 := ⟨_, rfl⟩
  have hA : Blk w0 w.heap.size 85 #[.int .i64 a1, .int .i64 a2, .int .i64 a3] := by rw [← hW0]; exact (Blk.new w _ _).alloc _
  have hB : Blk w0 (w.heap.size + 1) 85 #[.int .i64 b1, .int .i64 b2, .int .i64 b3] := by
    rw [← hW0]
    have := Blk.new (w.alloc (.cells #[.int .i64 a1, .int .i64 a2, .int .i64 a3] 85)) 85 #[.int .i64 b1, .int .i64 b2, .int .i64 b3]
    simpa using this
  have Hg : Hid (∃ os, w0 = grow w os) := Lib.hid ⟨_, by rw [← hW0, alloc_eq_grow, alloc_eq_grow, grow_grow]⟩
  obtain ⟨a_0, a_1, a_2⟩ : _ ∧ _ ∧ _ := ⟨hA.cell 0, hA.cell 1, hA.cell 2⟩
  obtain ⟨b_0, b_1, b_2⟩ : _ ∧ _ ∧ _ := ⟨hB.cell 0, hB.cell 1, hB.cell 2⟩
  simp only [List.getElem?_toArray, List.getElem?_cons_zero, List.getElem?_cons_succ] at a_0 a_1 a_2 b_0 b_1 b_2
  clear hA hB
  go_enter Try.func46, Try.ntmps46
  go_wp2_with fail
  refine wp_drew_tail 15 (by kernel_rfl) (by kernel_rfl) ?_
  simp only [List.take_succ_cons, List.take_zero, List.drop_succ_cons, List.drop_zero]
  repeat (go_big_quiet_step (exact cmp_q _ _ _ _))
  refine wpQuiet_nil ?_
  rintro w3 ⟨dq, rfl⟩
  go_wp2_with (go_at_call 73; (with_reducible refine Calls.mono (or3_s _ _ _ _) ?_); rintro r w4 ⟨rfl, rfl⟩)
  go_ret
  obtain ⟨os, hos⟩ := Hg.out
  refine ⟨rfl, dq, os.push (.cells #[.int .i64 (cmpI a1 b1), .int .i64 (cmpI a2 b2), .int .i64 (cmpI a3 b3)] 3), ?_⟩
  subst hos
  simp [grow, World.alloc, World.drewN]
instance : Inhabited K3 := ⟨⟨0, 0, 0⟩⟩
theorem onesK13 (x : K3) : ∀ u ∈ K3.cells x, u.oneCell' = true := by
  intro u hu
  simp [K3.cells] at hu
  rcases hu with rfl | rfl | rfl <;> rfl
theorem ltOf_K13 : ltOf cmpK = lessK := by
  funext a b
  exact cmpK_less _ _
theorem swoK13 : SWO (ltOf cmpK) := by
  rw [ltOf_K13]
  exact { irrefl := lessK_irr, trans := fun _ _ _ h1 h2 => lessK_trans h1 h2, ntrans := fun _ _ _ h1 h2 => lessK_ntrans h1 h2 }
theorem call_before13 (xs : Array Value) (w : World) : (callFunc 46 xs).run Try.prog w = .ok (.enter 46 xs) w := callOf Try.func46 rfl (by kernel_rfl) xs w
theorem before13_any (x y : K3) (w : World) : Calls Try.prog 46 #[.agg (K3.cells x).toArray, .agg (K3.cells y).toArray] w fun r w' => r = .returned (.int .i64 (cmpK x y)) ∧ ∃ q os', w' = grow (w.drewN q) os' := by
  obtain ⟨a1, a2, a3⟩ := x
  obtain ⟨b1, b2, b3⟩ := y
  exact before_g13 a1 a2 a3 b1 b2 b3 w
theorem sortKs13 (v : Value) (M : List K3) (B : Nat) (w : World) (hown : OwnR 85 3 K3.cells w B v M) (hlen : M.length ≤ 2 ^ 20) :
    Calls Try.prog 70 #[v, .func (.func 46) #[] #[]] w fun r w' => r = .returned (.tuple #[]) ∧ (∃ N, OwnR 85 3 K3.cells w' B v N ∧ N.Perm M ∧ N.Pairwise fun x y => lessK y x = false) ∧ w.grownBy w' v.ownBlock := by
  have h := sort_row Try.sortKey (C := 3) Try.isAgg85 Try.sizeOf85 K3.cells (fun _ => rfl) onesK13 cmpK swoK13 46 call_before13 (fun x y w => before13_any x y w) v M B w hown hlen
  change Calls Try.prog 70 _ _ _ at h
  refine h.mono ?_
  rintro r w' ⟨rfl, N, hN, hpN, hsN, hg⟩
  rw [ltOf_K13] at hsN
  exact ⟨rfl, ⟨N, hN, hpN, hsN⟩, hg⟩

end Go.Proofs.Ytpnbibokddhheaa
